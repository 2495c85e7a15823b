/- Part 4 of the proof of laws.FnExactAskMay. -/
import Derived.Test.YtnffoddeppimkaaKFnExactAskMay0
import Derived.Test.YtnffoddeppimkaaKFnExactAskMay1
import Derived.Test.YtnffoddeppimkaaKFnExactAskMay2
import Derived.Test.YtnffoddeppimkaaKFnExactAskMay3
namespace Go.Proofs.Ytnffoddeppimkaa.P
open Go.RowKit Go.Proofs.YtnffoddeppimkaaW.PrintWords Go.Proofs.YtnffoddeppimkaaW.PrintLast Go.Proofs.YtnffoddeppimkaaW.PrintMore
attribute [local go_sem] max2_int min2_int max_two min_two max_three min_three max_four min_four
set_option linter.unusedVariables false
set_option linter.unusedSimpArgs false
def impl_AskOk.f (a0_0 : Int) (a0_1 : Int) (a0_2 : Int) (a0_3 : Int) : Option (Bool) := (impl_kindOk.f a0_0).bind fun t514 => (if t514 = true then ((impl_needOk.f a0_1).bind fun t515 => (if t515 = true then ((impl_FracOk.f a0_2 a0_3).bind fun t516 => (if t516 = true then (some (decide (a0_2 > 0))) else (some false))) else (some false))) else (some false))
set_option maxHeartbeats 8000000 in
set_option maxRecDepth 100000 in
theorem impl_AskOk.calls (a0_0 : Int) (a0_1 : Int) (a0_2 : Int) (a0_3 : Int) (r : Bool) (w : World) (h : impl_AskOk.f a0_0 a0_1 a0_2 a0_3 = some r) :
    Calls Try.prog 70 #[.agg #[.int .i64 a0_0, .int .i64 a0_1, .int .i64 a0_2, .int .i64 a0_3]] w fun e w' => e = .returned (.bool r) ∧ Below w.heap.size w w' := by
  have hu54 := Try.underlying54
  have hu30 := Try.underlying30
  have HB := Aside0.mk (Below.refl w.heap.size w)
  have H : ((impl_kindOk.f a0_0).bind fun t514 => (if t514 = true then ((impl_needOk.f a0_1).bind fun t515 => (if t515 = true then ((impl_FracOk.f a0_2 a0_3).bind fun t516 => (if t516 = true then (some (decide (a0_2 > 0))) else (some false))) else (some false))) else (some false))) = some r := h
  clear h
  replace H := Option.bind_eq_some_iff.mp H
  obtain ⟨t514, A20, H⟩ := H
  replace H : (if t514 = true then ((impl_needOk.f a0_1).bind fun t515 => (if t515 = true then ((impl_FracOk.f a0_2 a0_3).bind fun t516 => (if t516 = true then (some (decide (a0_2 > 0))) else (some false))) else (some false))) else (some false)) = some r := H
  have A2 := Aside0.mk A20
  clear A20
  by_cases c3 : t514 = true
  · subst c3
    have H1 : ((impl_needOk.f a0_1).bind fun t515 => (if t515 = true then ((impl_FracOk.f a0_2 a0_3).bind fun t516 => (if t516 = true then (some (decide (a0_2 > 0))) else (some false))) else (some false))) = some r := by rw [if_pos rfl] at H; exact H
    clear H
    have H := H1
    clear H1
    replace H := Option.bind_eq_some_iff.mp H
    obtain ⟨t515, A40, H⟩ := H
    replace H : (if t515 = true then ((impl_FracOk.f a0_2 a0_3).bind fun t516 => (if t516 = true then (some (decide (a0_2 > 0))) else (some false))) else (some false)) = some r := H
    have A4 := Aside0.mk A40
    clear A40
    by_cases c5 : t515 = true
    · subst c5
      have H1 : ((impl_FracOk.f a0_2 a0_3).bind fun t516 => (if t516 = true then (some (decide (a0_2 > 0))) else (some false))) = some r := by rw [if_pos rfl] at H; exact H
      clear H
      have H := H1
      clear H1
      replace H := Option.bind_eq_some_iff.mp H
      obtain ⟨t516, A60, H⟩ := H
      replace H : (if t516 = true then (some (decide (a0_2 > 0))) else (some false)) = some r := H
      have A6 := Aside0.mk A60
      clear A60
      by_cases c7 : t516 = true
      · subst c7
        have H1 : (some (decide (a0_2 > 0))) = some r := by rw [if_pos rfl] at H; exact H
        clear H
        have H := H1
        clear H1
        obtain rfl := Option.some.inj H
        go_enter Try.func70, Try.ntmps70
        go_wp2_with (first | ((with_reducible refine gate_dst (N := 1) rfl ?_); refine box_event ?hg (N := 1) ?hd (cs := #[.int .i64 a0_0, .int .i64 a0_1, .int .i64 a0_2, .int .i64 a0_3]) (t := 54) ?hr ?_; (case hd => rfl); (case hg => rfl); (case hr => first | (go_simp; done) | (go_simp; rfl)); intro gb513 hg w8 hbox hb; have n0_ := Aside0.mk (below_step (by repeat (first | (with_reducible first | exact HB.out | apply below_alloc | apply pw_below_drewN | apply below_drew1) | exact HB.out)) hb); have n1_ := Aside0.mk (hbox); have n2_ := Aside0.mk ((by rw [hg]; exact (below_size (by repeat (first | (with_reducible first | exact HB.out | apply below_alloc | apply pw_below_drewN | apply below_drew1) | exact HB.out))) : w.heap.size ≤ gb513)); have n3_ := Aside0.mk ((by rw [hg]; exact (below_size (by repeat (first | (with_reducible first | exact HB.out | apply below_alloc | apply pw_below_drewN | apply below_drew1) | exact HB.out))) : w.heap.size ≤ gb513)); clear HB; have HB := n0_; have BK513 := n1_; have GW513 := n2_; have GE513 := n3_; clear n0_ n1_ n2_ n3_; clear hb hbox hg; have hcz9_0 : w8.cell? ⟨gb513, 0, none⟩ = some (.int .i64 a0_0) := (blk_cell BK513.out 0).trans rfl; have hcz9_1 : w8.cell? ⟨gb513, 1, none⟩ = some (.int .i64 a0_1) := (blk_cell BK513.out 1).trans rfl; have hcz9_2 : w8.cell? ⟨gb513, 2, none⟩ = some (.int .i64 a0_2) := (blk_cell BK513.out 2).trans rfl; have hcz9_3 : w8.cell? ⟨gb513, 3, none⟩ = some (.int .i64 a0_3) := (blk_cell BK513.out 3).trans rfl; have hfz9_0 := blk_frozen BK513.out 0; have hfz9_1 := blk_frozen BK513.out 1; have hfz9_2 := blk_frozen BK513.out 2; have hfz9_3 := blk_frozen BK513.out 3) | ((with_reducible refine gate_callee (f := 74) rfl ?_); refine goesL_ (some 5) rfl rfl Try.func74 (by kernel_rfl) rfl #[.int .i64 a0_0] rfl (by (try simp only [List.map_toArray, List.map_cons, List.map_nil]); first | done | rfl | (simp only [List.length_drop, List.length_take]; rfl)) ?_; (with_reducible refine (impl_kindOk.calls a0_0 true _ A2.out).mono ?_); rintro e w10 ⟨rfl, hb⟩; refine ⟨_, rfl, ?_⟩; have n0_ := Aside0.mk (blk_below (g := gb513) (o := .cells #[.int .i64 a0_0, .int .i64 a0_1, .int .i64 a0_2, .int .i64 a0_3] 54 (0, 0)) (by (with_reducible repeat (first | refine blk_drewN ?_ _ | refine blk_drew ?_ | refine blk_alloc ?_ _)); exact BK513.out) hb); have n1_ := Aside0.mk (below_step (by repeat (first | (with_reducible first | exact HB.out | apply below_alloc | apply pw_below_drewN | apply below_drew1 | refine below_set ?_ GE513.out) | exact HB.out)) hb); clear BK513; clear HB; have BK513 := n0_; have HB := n1_; clear n0_ n1_; (try clear hb); (try clear hb2); (try clear hk); (try clear hi); have hcz11_0 : w10.cell? ⟨gb513, 0, none⟩ = some (.int .i64 a0_0) := (blk_cell BK513.out 0).trans rfl; have hcz11_1 : w10.cell? ⟨gb513, 1, none⟩ = some (.int .i64 a0_1) := (blk_cell BK513.out 1).trans rfl; have hcz11_2 : w10.cell? ⟨gb513, 2, none⟩ = some (.int .i64 a0_2) := (blk_cell BK513.out 2).trans rfl; have hcz11_3 : w10.cell? ⟨gb513, 3, none⟩ = some (.int .i64 a0_3) := (blk_cell BK513.out 3).trans rfl; have hfz11_0 := blk_frozen BK513.out 0; have hfz11_1 := blk_frozen BK513.out 1; have hfz11_2 := blk_frozen BK513.out 2; have hfz11_3 := blk_frozen BK513.out 3) | (go_at_call 52; (with_reducible refine (impl_needOk.calls a0_1 true _ A4.out).mono ?_); rintro e w' ⟨rfl, ⟨nd, rfl⟩⟩) | (go_at_call 24; (with_reducible refine (impl_FracOk.calls a0_2 a0_3 true _ A6.out).mono ?_); rintro e w12 ⟨rfl, hb⟩; have n0_ := Aside0.mk (blk_below (g := gb513) (o := .cells #[.int .i64 a0_0, .int .i64 a0_1, .int .i64 a0_2, .int .i64 a0_3] 54 (0, 0)) (by (with_reducible repeat (first | refine blk_drewN ?_ _ | refine blk_drew ?_ | refine blk_alloc ?_ _)); exact BK513.out) hb); have n1_ := Aside0.mk (below_step (by repeat (first | (with_reducible first | exact HB.out | apply below_alloc | apply pw_below_drewN | apply below_drew1 | refine below_set ?_ GE513.out) | exact HB.out)) hb); clear BK513; clear HB; have BK513 := n0_; have HB := n1_; clear n0_ n1_; (try clear hb); (try clear hb2); (try clear hk); (try clear hi); have hcz13_0 : w12.cell? ⟨gb513, 0, none⟩ = some (.int .i64 a0_0) := (blk_cell BK513.out 0).trans rfl; have hcz13_1 : w12.cell? ⟨gb513, 1, none⟩ = some (.int .i64 a0_1) := (blk_cell BK513.out 1).trans rfl; have hcz13_2 : w12.cell? ⟨gb513, 2, none⟩ = some (.int .i64 a0_2) := (blk_cell BK513.out 2).trans rfl; have hcz13_3 : w12.cell? ⟨gb513, 3, none⟩ = some (.int .i64 a0_3) := (blk_cell BK513.out 3).trans rfl; have hfz13_0 := blk_frozen BK513.out 0; have hfz13_1 := blk_frozen BK513.out 1; have hfz13_2 := blk_frozen BK513.out 2; have hfz13_3 := blk_frozen BK513.out 3))
        go_ret
        exact ⟨by first | rfl | (simp [errW_none, errW_some] <;> rfl) | (simp [*, errW_none, errW_some] <;> rfl), by repeat (first | (with_reducible first | exact HB.out | apply below_alloc | apply pw_below_drewN | apply below_drew1 | refine below_set ?_ GE513.out) | exact HB.out)⟩
      · replace c7 := Bool.eq_false_iff.mpr c7
        subst c7
        have H1 : (some false) = some r := by rw [if_neg (show ¬ (false = true) by decide)] at H; exact H
        clear H
        have H := H1
        clear H1
        obtain rfl := Option.some.inj H
        go_enter Try.func70, Try.ntmps70
        go_wp2_with (first | ((with_reducible refine gate_dst (N := 1) rfl ?_); refine box_event ?hg (N := 1) ?hd (cs := #[.int .i64 a0_0, .int .i64 a0_1, .int .i64 a0_2, .int .i64 a0_3]) (t := 54) ?hr ?_; (case hd => rfl); (case hg => rfl); (case hr => first | (go_simp; done) | (go_simp; rfl)); intro gb513 hg w14 hbox hb; have n0_ := Aside0.mk (below_step (by repeat (first | (with_reducible first | exact HB.out | apply below_alloc | apply pw_below_drewN | apply below_drew1) | exact HB.out)) hb); have n1_ := Aside0.mk (hbox); have n2_ := Aside0.mk ((by rw [hg]; exact (below_size (by repeat (first | (with_reducible first | exact HB.out | apply below_alloc | apply pw_below_drewN | apply below_drew1) | exact HB.out))) : w.heap.size ≤ gb513)); have n3_ := Aside0.mk ((by rw [hg]; exact (below_size (by repeat (first | (with_reducible first | exact HB.out | apply below_alloc | apply pw_below_drewN | apply below_drew1) | exact HB.out))) : w.heap.size ≤ gb513)); clear HB; have HB := n0_; have BK513 := n1_; have GW513 := n2_; have GE513 := n3_; clear n0_ n1_ n2_ n3_; clear hb hbox hg; have hcz15_0 : w14.cell? ⟨gb513, 0, none⟩ = some (.int .i64 a0_0) := (blk_cell BK513.out 0).trans rfl; have hcz15_1 : w14.cell? ⟨gb513, 1, none⟩ = some (.int .i64 a0_1) := (blk_cell BK513.out 1).trans rfl; have hcz15_2 : w14.cell? ⟨gb513, 2, none⟩ = some (.int .i64 a0_2) := (blk_cell BK513.out 2).trans rfl; have hcz15_3 : w14.cell? ⟨gb513, 3, none⟩ = some (.int .i64 a0_3) := (blk_cell BK513.out 3).trans rfl; have hfz15_0 := blk_frozen BK513.out 0; have hfz15_1 := blk_frozen BK513.out 1; have hfz15_2 := blk_frozen BK513.out 2; have hfz15_3 := blk_frozen BK513.out 3) | ((with_reducible refine gate_callee (f := 74) rfl ?_); refine goesL_ (some 5) rfl rfl Try.func74 (by kernel_rfl) rfl #[.int .i64 a0_0] rfl (by (try simp only [List.map_toArray, List.map_cons, List.map_nil]); first | done | rfl | (simp only [List.length_drop, List.length_take]; rfl)) ?_; (with_reducible refine (impl_kindOk.calls a0_0 true _ A2.out).mono ?_); rintro e w16 ⟨rfl, hb⟩; refine ⟨_, rfl, ?_⟩; have n0_ := Aside0.mk (blk_below (g := gb513) (o := .cells #[.int .i64 a0_0, .int .i64 a0_1, .int .i64 a0_2, .int .i64 a0_3] 54 (0, 0)) (by (with_reducible repeat (first | refine blk_drewN ?_ _ | refine blk_drew ?_ | refine blk_alloc ?_ _)); exact BK513.out) hb); have n1_ := Aside0.mk (below_step (by repeat (first | (with_reducible first | exact HB.out | apply below_alloc | apply pw_below_drewN | apply below_drew1 | refine below_set ?_ GE513.out) | exact HB.out)) hb); clear BK513; clear HB; have BK513 := n0_; have HB := n1_; clear n0_ n1_; (try clear hb); (try clear hb2); (try clear hk); (try clear hi); have hcz17_0 : w16.cell? ⟨gb513, 0, none⟩ = some (.int .i64 a0_0) := (blk_cell BK513.out 0).trans rfl; have hcz17_1 : w16.cell? ⟨gb513, 1, none⟩ = some (.int .i64 a0_1) := (blk_cell BK513.out 1).trans rfl; have hcz17_2 : w16.cell? ⟨gb513, 2, none⟩ = some (.int .i64 a0_2) := (blk_cell BK513.out 2).trans rfl; have hcz17_3 : w16.cell? ⟨gb513, 3, none⟩ = some (.int .i64 a0_3) := (blk_cell BK513.out 3).trans rfl; have hfz17_0 := blk_frozen BK513.out 0; have hfz17_1 := blk_frozen BK513.out 1; have hfz17_2 := blk_frozen BK513.out 2; have hfz17_3 := blk_frozen BK513.out 3) | (go_at_call 52; (with_reducible refine (impl_needOk.calls a0_1 true _ A4.out).mono ?_); rintro e w' ⟨rfl, ⟨nd, rfl⟩⟩) | (go_at_call 24; (with_reducible refine (impl_FracOk.calls a0_2 a0_3 false _ A6.out).mono ?_); rintro e w18 ⟨rfl, hb⟩; have n0_ := Aside0.mk (blk_below (g := gb513) (o := .cells #[.int .i64 a0_0, .int .i64 a0_1, .int .i64 a0_2, .int .i64 a0_3] 54 (0, 0)) (by (with_reducible repeat (first | refine blk_drewN ?_ _ | refine blk_drew ?_ | refine blk_alloc ?_ _)); exact BK513.out) hb); have n1_ := Aside0.mk (below_step (by repeat (first | (with_reducible first | exact HB.out | apply below_alloc | apply pw_below_drewN | apply below_drew1 | refine below_set ?_ GE513.out) | exact HB.out)) hb); clear BK513; clear HB; have BK513 := n0_; have HB := n1_; clear n0_ n1_; (try clear hb); (try clear hb2); (try clear hk); (try clear hi)))
        go_ret
        exact ⟨by first | rfl | (simp [errW_none, errW_some] <;> rfl) | (simp [*, errW_none, errW_some] <;> rfl), by repeat (first | (with_reducible first | exact HB.out | apply below_alloc | apply pw_below_drewN | apply below_drew1 | refine below_set ?_ GE513.out) | exact HB.out)⟩
    · replace c5 := Bool.eq_false_iff.mpr c5
      subst c5
      have H1 : (some false) = some r := by rw [if_neg (show ¬ (false = true) by decide)] at H; exact H
      clear H
      have H := H1
      clear H1
      obtain rfl := Option.some.inj H
      go_enter Try.func70, Try.ntmps70
      go_wp2_with (first | ((with_reducible refine gate_dst (N := 1) rfl ?_); refine box_event ?hg (N := 1) ?hd (cs := #[.int .i64 a0_0, .int .i64 a0_1, .int .i64 a0_2, .int .i64 a0_3]) (t := 54) ?hr ?_; (case hd => rfl); (case hg => rfl); (case hr => first | (go_simp; done) | (go_simp; rfl)); intro gb513 hg w19 hbox hb; have n0_ := Aside0.mk (below_step (by repeat (first | (with_reducible first | exact HB.out | apply below_alloc | apply pw_below_drewN | apply below_drew1) | exact HB.out)) hb); have n1_ := Aside0.mk (hbox); have n2_ := Aside0.mk ((by rw [hg]; exact (below_size (by repeat (first | (with_reducible first | exact HB.out | apply below_alloc | apply pw_below_drewN | apply below_drew1) | exact HB.out))) : w.heap.size ≤ gb513)); have n3_ := Aside0.mk ((by rw [hg]; exact (below_size (by repeat (first | (with_reducible first | exact HB.out | apply below_alloc | apply pw_below_drewN | apply below_drew1) | exact HB.out))) : w.heap.size ≤ gb513)); clear HB; have HB := n0_; have BK513 := n1_; have GW513 := n2_; have GE513 := n3_; clear n0_ n1_ n2_ n3_; clear hb hbox hg; have hcz20_0 : w19.cell? ⟨gb513, 0, none⟩ = some (.int .i64 a0_0) := (blk_cell BK513.out 0).trans rfl; have hcz20_1 : w19.cell? ⟨gb513, 1, none⟩ = some (.int .i64 a0_1) := (blk_cell BK513.out 1).trans rfl; have hcz20_2 : w19.cell? ⟨gb513, 2, none⟩ = some (.int .i64 a0_2) := (blk_cell BK513.out 2).trans rfl; have hcz20_3 : w19.cell? ⟨gb513, 3, none⟩ = some (.int .i64 a0_3) := (blk_cell BK513.out 3).trans rfl; have hfz20_0 := blk_frozen BK513.out 0; have hfz20_1 := blk_frozen BK513.out 1; have hfz20_2 := blk_frozen BK513.out 2; have hfz20_3 := blk_frozen BK513.out 3) | ((with_reducible refine gate_callee (f := 74) rfl ?_); refine goesL_ (some 5) rfl rfl Try.func74 (by kernel_rfl) rfl #[.int .i64 a0_0] rfl (by (try simp only [List.map_toArray, List.map_cons, List.map_nil]); first | done | rfl | (simp only [List.length_drop, List.length_take]; rfl)) ?_; (with_reducible refine (impl_kindOk.calls a0_0 true _ A2.out).mono ?_); rintro e w21 ⟨rfl, hb⟩; refine ⟨_, rfl, ?_⟩; have n0_ := Aside0.mk (blk_below (g := gb513) (o := .cells #[.int .i64 a0_0, .int .i64 a0_1, .int .i64 a0_2, .int .i64 a0_3] 54 (0, 0)) (by (with_reducible repeat (first | refine blk_drewN ?_ _ | refine blk_drew ?_ | refine blk_alloc ?_ _)); exact BK513.out) hb); have n1_ := Aside0.mk (below_step (by repeat (first | (with_reducible first | exact HB.out | apply below_alloc | apply pw_below_drewN | apply below_drew1 | refine below_set ?_ GE513.out) | exact HB.out)) hb); clear BK513; clear HB; have BK513 := n0_; have HB := n1_; clear n0_ n1_; (try clear hb); (try clear hb2); (try clear hk); (try clear hi); have hcz22_0 : w21.cell? ⟨gb513, 0, none⟩ = some (.int .i64 a0_0) := (blk_cell BK513.out 0).trans rfl; have hcz22_1 : w21.cell? ⟨gb513, 1, none⟩ = some (.int .i64 a0_1) := (blk_cell BK513.out 1).trans rfl; have hcz22_2 : w21.cell? ⟨gb513, 2, none⟩ = some (.int .i64 a0_2) := (blk_cell BK513.out 2).trans rfl; have hcz22_3 : w21.cell? ⟨gb513, 3, none⟩ = some (.int .i64 a0_3) := (blk_cell BK513.out 3).trans rfl; have hfz22_0 := blk_frozen BK513.out 0; have hfz22_1 := blk_frozen BK513.out 1; have hfz22_2 := blk_frozen BK513.out 2; have hfz22_3 := blk_frozen BK513.out 3) | (go_at_call 52; (with_reducible refine (impl_needOk.calls a0_1 false _ A4.out).mono ?_); rintro e w' ⟨rfl, ⟨nd, rfl⟩⟩))
      go_ret
      exact ⟨by first | rfl | (simp [errW_none, errW_some] <;> rfl) | (simp [*, errW_none, errW_some] <;> rfl), by repeat (first | (with_reducible first | exact HB.out | apply below_alloc | apply pw_below_drewN | apply below_drew1 | refine below_set ?_ GE513.out) | exact HB.out)⟩
  · replace c3 := Bool.eq_false_iff.mpr c3
    subst c3
    have H1 : (some false) = some r := by rw [if_neg (show ¬ (false = true) by decide)] at H; exact H
    clear H
    have H := H1
    clear H1
    obtain rfl := Option.some.inj H
    go_enter Try.func70, Try.ntmps70
    go_wp2_with (first | ((with_reducible refine gate_dst (N := 1) rfl ?_); refine box_event ?hg (N := 1) ?hd (cs := #[.int .i64 a0_0, .int .i64 a0_1, .int .i64 a0_2, .int .i64 a0_3]) (t := 54) ?hr ?_; (case hd => rfl); (case hg => rfl); (case hr => first | (go_simp; done) | (go_simp; rfl)); intro gb513 hg w23 hbox hb; have n0_ := Aside0.mk (below_step (by repeat (first | (with_reducible first | exact HB.out | apply below_alloc | apply pw_below_drewN | apply below_drew1) | exact HB.out)) hb); have n1_ := Aside0.mk (hbox); have n2_ := Aside0.mk ((by rw [hg]; exact (below_size (by repeat (first | (with_reducible first | exact HB.out | apply below_alloc | apply pw_below_drewN | apply below_drew1) | exact HB.out))) : w.heap.size ≤ gb513)); have n3_ := Aside0.mk ((by rw [hg]; exact (below_size (by repeat (first | (with_reducible first | exact HB.out | apply below_alloc | apply pw_below_drewN | apply below_drew1) | exact HB.out))) : w.heap.size ≤ gb513)); clear HB; have HB := n0_; have BK513 := n1_; have GW513 := n2_; have GE513 := n3_; clear n0_ n1_ n2_ n3_; clear hb hbox hg; have hcz24_0 : w23.cell? ⟨gb513, 0, none⟩ = some (.int .i64 a0_0) := (blk_cell BK513.out 0).trans rfl; have hcz24_1 : w23.cell? ⟨gb513, 1, none⟩ = some (.int .i64 a0_1) := (blk_cell BK513.out 1).trans rfl; have hcz24_2 : w23.cell? ⟨gb513, 2, none⟩ = some (.int .i64 a0_2) := (blk_cell BK513.out 2).trans rfl; have hcz24_3 : w23.cell? ⟨gb513, 3, none⟩ = some (.int .i64 a0_3) := (blk_cell BK513.out 3).trans rfl; have hfz24_0 := blk_frozen BK513.out 0; have hfz24_1 := blk_frozen BK513.out 1; have hfz24_2 := blk_frozen BK513.out 2; have hfz24_3 := blk_frozen BK513.out 3) | ((with_reducible refine gate_callee (f := 74) rfl ?_); refine goesL_ (some 5) rfl rfl Try.func74 (by kernel_rfl) rfl #[.int .i64 a0_0] rfl (by (try simp only [List.map_toArray, List.map_cons, List.map_nil]); first | done | rfl | (simp only [List.length_drop, List.length_take]; rfl)) ?_; (with_reducible refine (impl_kindOk.calls a0_0 false _ A2.out).mono ?_); rintro e w25 ⟨rfl, hb⟩; refine ⟨_, rfl, ?_⟩; have n0_ := Aside0.mk (blk_below (g := gb513) (o := .cells #[.int .i64 a0_0, .int .i64 a0_1, .int .i64 a0_2, .int .i64 a0_3] 54 (0, 0)) (by (with_reducible repeat (first | refine blk_drewN ?_ _ | refine blk_drew ?_ | refine blk_alloc ?_ _)); exact BK513.out) hb); have n1_ := Aside0.mk (below_step (by repeat (first | (with_reducible first | exact HB.out | apply below_alloc | apply pw_below_drewN | apply below_drew1 | refine below_set ?_ GE513.out) | exact HB.out)) hb); clear BK513; clear HB; have BK513 := n0_; have HB := n1_; clear n0_ n1_; (try clear hb); (try clear hb2); (try clear hk); (try clear hi)))
    go_ret
    exact ⟨by first | rfl | (simp [errW_none, errW_some] <;> rfl) | (simp [*, errW_none, errW_some] <;> rfl), by repeat (first | (with_reducible first | exact HB.out | apply below_alloc | apply pw_below_drewN | apply below_drew1 | refine below_set ?_ GE513.out) | exact HB.out)⟩
end Go.Proofs.Ytnffoddeppimkaa.P
namespace Go.Proofs.Ytnffoddeppimkaa.P
open Go.RowKit Go.Proofs.YtnffoddeppimkaaW.PrintWords Go.Proofs.YtnffoddeppimkaaW.PrintLast Go.Proofs.YtnffoddeppimkaaW.PrintMore
attribute [local go_sem] max2_int min2_int max_two min_two max_three min_three max_four min_four
set_option linter.unusedVariables false
set_option linter.unusedSimpArgs false
def impl_TypeLen.f (a0 : Int) : Option (Int) := some (lenOf a0)
theorem impl_TypeLen.calls (a0 : Int) (r : Int) (w : World) (h : impl_TypeLen.f a0 = some r) :
    Calls Try.prog 75 #[.int .i64 a0] w fun e w' => e = .returned (.int .i64 r) ∧ Below w.heap.size w w' := by
  obtain rfl := Option.some.inj h
  exact iTypeLen_c a0 w
end Go.Proofs.Ytnffoddeppimkaa.P
namespace Go.Proofs.Ytnffoddeppimkaa.P
open Go.RowKit Go.Proofs.YtnffoddeppimkaaW.PrintWords Go.Proofs.YtnffoddeppimkaaW.PrintLast Go.Proofs.YtnffoddeppimkaaW.PrintMore
attribute [local go_sem] max2_int min2_int max_two min_two max_three min_three max_four min_four
set_option linter.unusedVariables false
set_option linter.unusedSimpArgs false
def impl_elementsOk.f (l0 : List Int) (a1 : Int) : Option (Bool) := some (elsB l0 a1)
theorem impl_elementsOk.calls (A0 : Option Addr) (c0 : Nat) (l0 : List Int) (a1 : Int) (r : Bool) (w : World) (hr0 : Kd.C (Kd.int .i64) w A0 l0.length l0) (hc0 : l0.length ≤ c0) (h : impl_elementsOk.f l0 a1 = some r) :
    Calls Try.prog 96 #[.slice A0 l0.length c0, .int .i64 a1] w fun e w' => e = .returned (.bool r) ∧ Drawn0 w w' := by
  obtain rfl := Option.some.inj h
  exact elementsOkH A0 c0 l0 a1 w hr0
end Go.Proofs.Ytnffoddeppimkaa.P
namespace Go.Proofs.Ytnffoddeppimkaa.P
open Go.RowKit Go.Proofs.YtnffoddeppimkaaW.PrintWords Go.Proofs.YtnffoddeppimkaaW.PrintLast Go.Proofs.YtnffoddeppimkaaW.PrintMore
attribute [local go_sem] max2_int min2_int max_two min_two max_three min_three max_four min_four
set_option linter.unusedVariables false
set_option linter.unusedSimpArgs false
def impl_sized.f (a0 : Int) (l1 : List Int) (a2 : Int) : Option (Bool) := (impl_kindOk.f a0).bind fun t517 => (if t517 = true then (if (l1.length : Int) = a2 then ((impl_elementsOk.f l1 20).bind fun t518 => (some t518)) else (some false)) else (some false))
set_option maxHeartbeats 8000000 in
set_option maxRecDepth 100000 in
theorem impl_sized.calls (a0 : Int) (A1 : Option Addr) (c1 : Nat) (l1 : List Int) (a2 : Int) (r : Bool) (w : World) (hr1 : Kd.C (Kd.int .i64) w A1 l1.length l1) (hc1 : l1.length ≤ c1) (h : impl_sized.f a0 l1 a2 = some r) :
    Calls Try.prog 89 #[.int .i64 a0, .slice A1 l1.length c1, .int .i64 a2] w fun e w' => e = .returned (.bool r) ∧ Below w.heap.size w w' := by
  have HR1 := Aside0.mk hr1
  have HC1 := Aside0.mk hc1
  clear hr1 hc1
  have HB := Aside0.mk (Below.refl w.heap.size w)
  have H : ((impl_kindOk.f a0).bind fun t517 => (if t517 = true then (if (l1.length : Int) = a2 then ((impl_elementsOk.f l1 20).bind fun t518 => (some t518)) else (some false)) else (some false))) = some r := h
  clear h
  replace H := Option.bind_eq_some_iff.mp H
  obtain ⟨t517, A40, H⟩ := H
  replace H : (if t517 = true then (if (l1.length : Int) = a2 then ((impl_elementsOk.f l1 20).bind fun t518 => (some t518)) else (some false)) else (some false)) = some r := H
  have A4 := Aside0.mk A40
  clear A40
  by_cases c5 : t517 = true
  · subst c5
    have H1 : (if (l1.length : Int) = a2 then ((impl_elementsOk.f l1 20).bind fun t518 => (some t518)) else (some false)) = some r := by rw [if_pos rfl] at H; exact H
    clear H
    have H := H1
    clear H1
    by_cases c6 : (l1.length : Int) = a2
    · rw [if_pos c6] at H
      have c6b0 : ((l1.length : Int) == a2) = true := beq_iff_eq.mpr c6
      have c6b1 : ((l1.length : Int) != a2) = false := bne_eq_false_iff_eq.mpr c6
      clear c6
      replace H := Option.bind_eq_some_iff.mp H
      obtain ⟨t518, A70, H⟩ := H
      replace H : (some t518) = some r := H
      have A7 := Aside0.mk A70
      clear A70
      obtain rfl := Option.some.inj H
      go_enter Try.func89, Try.ntmps89
      go_wp2_with (first | ((with_reducible refine gate_callee (f := 74) rfl ?_); refine goesL_ (some 8) rfl rfl Try.func74 (by kernel_rfl) rfl #[.int .i64 a0] rfl (by (try simp only [List.map_toArray, List.map_cons, List.map_nil]); first | done | rfl | (simp only [List.length_drop, List.length_take]; rfl)) ?_; (with_reducible refine (impl_kindOk.calls a0 true _ A4.out).mono ?_); rintro e w8 ⟨rfl, hb⟩; refine ⟨_, rfl, ?_⟩; have n0_ := Aside0.mk (below_step (by repeat (first | (with_reducible first | exact HB.out | apply below_alloc | apply pw_below_drewN | apply below_drew1) | exact HB.out)) hb); clear HB; have HB := n0_; clear n0_; (try clear hb); (try clear hb2); (try clear hk); (try clear hi)) | (go_at_call 96; (with_reducible refine (impl_elementsOk.calls _ _ l1 20 t518 _ ?side1 ?side2 A7.out).mono ?_); (case side1 => repeat (first | exact (Kd.C_below HR1.out HB.out) | (with_reducible refine Kd.C_alloc ?_ _) | (with_reducible refine Kd.C_drewN ?_ _) | (with_reducible refine Kd.C_drew ?_))); (case side2 => exact HC1.out); rintro e w' ⟨rfl, ⟨nd, rfl⟩⟩))
      go_ret
      exact ⟨by first | rfl | (simp [errW_none, errW_some] <;> rfl) | (simp [*, errW_none, errW_some] <;> rfl), by repeat (first | (with_reducible first | exact HB.out | apply below_alloc | apply pw_below_drewN | apply below_drew1) | exact HB.out)⟩
    · rw [if_neg c6] at H
      have c6b0 : ((l1.length : Int) == a2) = false := beq_eq_false_iff_ne.mpr c6
      have c6b1 : ((l1.length : Int) != a2) = true := bne_iff_ne.mpr c6
      obtain rfl := Option.some.inj H
      go_enter Try.func89, Try.ntmps89
      go_wp2_with (first | ((with_reducible refine gate_callee (f := 74) rfl ?_); refine goesL_ (some 8) rfl rfl Try.func74 (by kernel_rfl) rfl #[.int .i64 a0] rfl (by (try simp only [List.map_toArray, List.map_cons, List.map_nil]); first | done | rfl | (simp only [List.length_drop, List.length_take]; rfl)) ?_; (with_reducible refine (impl_kindOk.calls a0 true _ A4.out).mono ?_); rintro e w9 ⟨rfl, hb⟩; refine ⟨_, rfl, ?_⟩; have n0_ := Aside0.mk (below_step (by repeat (first | (with_reducible first | exact HB.out | apply below_alloc | apply pw_below_drewN | apply below_drew1) | exact HB.out)) hb); clear HB; have HB := n0_; clear n0_; (try clear hb); (try clear hb2); (try clear hk); (try clear hi)))
      go_ret
      exact ⟨by first | rfl | (simp [errW_none, errW_some] <;> rfl) | (simp [*, errW_none, errW_some] <;> rfl), by repeat (first | (with_reducible first | exact HB.out | apply below_alloc | apply pw_below_drewN | apply below_drew1) | exact HB.out)⟩
  · replace c5 := Bool.eq_false_iff.mpr c5
    subst c5
    have H1 : (some false) = some r := by rw [if_neg (show ¬ (false = true) by decide)] at H; exact H
    clear H
    have H := H1
    clear H1
    obtain rfl := Option.some.inj H
    go_enter Try.func89, Try.ntmps89
    go_wp2_with (first | ((with_reducible refine gate_callee (f := 74) rfl ?_); refine goesL_ (some 8) rfl rfl Try.func74 (by kernel_rfl) rfl #[.int .i64 a0] rfl (by (try simp only [List.map_toArray, List.map_cons, List.map_nil]); first | done | rfl | (simp only [List.length_drop, List.length_take]; rfl)) ?_; (with_reducible refine (impl_kindOk.calls a0 false _ A4.out).mono ?_); rintro e w10 ⟨rfl, hb⟩; refine ⟨_, rfl, ?_⟩; have n0_ := Aside0.mk (below_step (by repeat (first | (with_reducible first | exact HB.out | apply below_alloc | apply pw_below_drewN | apply below_drew1) | exact HB.out)) hb); clear HB; have HB := n0_; clear n0_; (try clear hb); (try clear hb2); (try clear hk); (try clear hi)))
    go_ret
    exact ⟨by first | rfl | (simp [errW_none, errW_some] <;> rfl) | (simp [*, errW_none, errW_some] <;> rfl), by repeat (first | (with_reducible first | exact HB.out | apply below_alloc | apply pw_below_drewN | apply below_drew1) | exact HB.out)⟩
end Go.Proofs.Ytnffoddeppimkaa.P
namespace Go.Proofs.Ytnffoddeppimkaa.P
open Go.RowKit Go.Proofs.YtnffoddeppimkaaW.PrintWords Go.Proofs.YtnffoddeppimkaaW.PrintLast Go.Proofs.YtnffoddeppimkaaW.PrintMore
attribute [local go_sem] max2_int min2_int max_two min_two max_three min_three max_four min_four
set_option linter.unusedVariables false
set_option linter.unusedSimpArgs false
def impl_idsOk.f (l0 : List Int) (a1 : Int) : Option (Bool) := some (idsB l0 a1)
theorem impl_idsOk.calls (A0 : Option Addr) (c0 : Nat) (l0 : List Int) (a1 : Int) (r : Bool) (w : World) (hr0 : Kd.C (Kd.int .i64) w A0 l0.length l0) (hc0 : l0.length ≤ c0) (h : impl_idsOk.f l0 a1 = some r) :
    Calls Try.prog 90 #[.slice A0 l0.length c0, .int .i64 a1] w fun e w' => e = .returned (.bool r) ∧ Below w.heap.size w w' := by
  obtain rfl := Option.some.inj h
  exact idsOkH A0 c0 l0 a1 w hr0
end Go.Proofs.Ytnffoddeppimkaa.P
namespace Go.Proofs.Ytnffoddeppimkaa.P
open Go.RowKit Go.Proofs.YtnffoddeppimkaaW.PrintWords Go.Proofs.YtnffoddeppimkaaW.PrintLast Go.Proofs.YtnffoddeppimkaaW.PrintMore
attribute [local go_sem] max2_int min2_int max_two min_two max_three min_three max_four min_four
set_option linter.unusedVariables false
set_option linter.unusedSimpArgs false
def impl_ColOk.f (a0_0 : Int) (a0_1 : Int) (l0_2 : List Int) (l0_3 : List Int) : Option (Bool) := (impl_within.f a0_0 1 2).bind fun t520 => (if t520 = true then ((impl_TypeLen.f a0_1).bind fun t521 => ((impl_sized.f a0_1 l0_2 t521).bind fun t522 => (if t522 = true then ((impl_idsOk.f l0_3 9).bind fun t523 => (some t523)) else (some false)))) else (some false))
def impl_ColOk.T1 : Bool × List (List Nat × List Nat) := (true, [([], []), ([0], [0]), ([1], [1]), ([2, 2], [2]), ([3], [3]), ([4, 3], [3, 4]), ([3], [3]), ([6, 3], [3, 6]), ([3], [3]), ([8, 3], [3, 8]), ([9, 3, 3], [3, 9]), ([5, 7, 10, 10, 3], [3, 5, 7, 10]), ([3, 11], [3, 11]), ([12, 11], [12]), ([13], [13]), ([14, 13], [13, 14]), ([15, 13, 13], [13, 15]), ([13, 16], [13, 16]), ([17, 16, 0, 1, 2, 3, 4, 5, 6, 7, 8, 9, 10, 11, 12, 13, 14, 15, 16, 17], [17])])
def impl_ColOk.B1 : List Nat := [0, 1, 3, 7, 15, 31, 15, 79, 15, 271, 783, 2047, 4095, 8191, 16383, 32767, 65535, 131071, 262143]
theorem impl_ColOk.tab1 : rtab .any (opsOf Try.f81 1) = impl_ColOk.T1 := by kernel_rfl
theorem impl_ColOk.bits1 : waitsOk impl_ColOk.T1.2 impl_ColOk.B1 = true := by kernel_rfl
set_option maxHeartbeats 8000000 in
set_option maxRecDepth 100000 in
theorem impl_ColOk.calls (a0_0 : Int) (a0_1 : Int) (A0_2 : Option Addr) (c0_2 : Nat) (l0_2 : List Int) (A0_3 : Option Addr) (c0_3 : Nat) (l0_3 : List Int) (r : Bool) (w : World) (hr0_2 : Kd.C (Kd.int .i64) w A0_2 l0_2.length l0_2) (hc0_2 : l0_2.length ≤ c0_2) (hr0_3 : Kd.C (Kd.int .i64) w A0_3 l0_3.length l0_3) (hc0_3 : l0_3.length ≤ c0_3) (h : impl_ColOk.f a0_0 a0_1 l0_2 l0_3 = some r) :
    Calls Try.prog 81 #[.agg #[.int .i64 a0_0, .int .i64 a0_1, .slice A0_2 l0_2.length c0_2, .slice A0_3 l0_3.length c0_3]] w fun e w' => e = .returned (.bool r) ∧ Below w.heap.size w w' := by
  have hu27 := Try.underlying27
  have HR0_2 := Aside0.mk hr0_2
  have HC0_2 := Aside0.mk hc0_2
  clear hr0_2 hc0_2
  have HR0_3 := Aside0.mk hr0_3
  have HC0_3 := Aside0.mk hc0_3
  clear hr0_3 hc0_3
  have HB := Aside0.mk (Below.refl w.heap.size w)
  have H : ((impl_within.f a0_0 1 2).bind fun t520 => (if t520 = true then ((impl_TypeLen.f a0_1).bind fun t521 => ((impl_sized.f a0_1 l0_2 t521).bind fun t522 => (if t522 = true then ((impl_idsOk.f l0_3 9).bind fun t523 => (some t523)) else (some false)))) else (some false))) = some r := h
  clear h
  replace H := Option.bind_eq_some_iff.mp H
  obtain ⟨t520, A20, H⟩ := H
  replace H : (if t520 = true then ((impl_TypeLen.f a0_1).bind fun t521 => ((impl_sized.f a0_1 l0_2 t521).bind fun t522 => (if t522 = true then ((impl_idsOk.f l0_3 9).bind fun t523 => (some t523)) else (some false)))) else (some false)) = some r := H
  have A2 := Aside0.mk A20
  clear A20
  by_cases c3 : t520 = true
  · subst c3
    have H1 : ((impl_TypeLen.f a0_1).bind fun t521 => ((impl_sized.f a0_1 l0_2 t521).bind fun t522 => (if t522 = true then ((impl_idsOk.f l0_3 9).bind fun t523 => (some t523)) else (some false)))) = some r := by rw [if_pos rfl] at H; exact H
    clear H
    have H := H1
    clear H1
    replace H := Option.bind_eq_some_iff.mp H
    obtain ⟨t521, A40, H⟩ := H
    replace H : ((impl_sized.f a0_1 l0_2 t521).bind fun t522 => (if t522 = true then ((impl_idsOk.f l0_3 9).bind fun t523 => (some t523)) else (some false))) = some r := H
    have A4 := Aside0.mk A40
    clear A40
    replace H := Option.bind_eq_some_iff.mp H
    obtain ⟨t522, A50, H⟩ := H
    replace H : (if t522 = true then ((impl_idsOk.f l0_3 9).bind fun t523 => (some t523)) else (some false)) = some r := H
    have A5 := Aside0.mk A50
    clear A50
    by_cases c6 : t522 = true
    · subst c6
      have H1 : ((impl_idsOk.f l0_3 9).bind fun t523 => (some t523)) = some r := by rw [if_pos rfl] at H; exact H
      clear H
      have H := H1
      clear H1
      replace H := Option.bind_eq_some_iff.mp H
      obtain ⟨t523, A70, H⟩ := H
      replace H : (some t523) = some r := H
      have A7 := Aside0.mk A70
      clear A70
      obtain rfl := Option.some.inj H
      go_enter Try.func81, Try.ntmps81
      try go_wp2_with (first | ((with_reducible refine gate_dst (N := 1) rfl ?_); refine box_event ?hg (N := 1) ?hd (cs := #[.int .i64 a0_0, .int .i64 a0_1, .slice A0_2 l0_2.length c0_2, .slice A0_3 l0_3.length c0_3]) (t := 27) ?hr ?_; (case hd => rfl); (case hg => rfl); (case hr => first | (go_simp; done) | (go_simp; rfl)); intro gb519 hg w8 hbox hb; have n0_ := Aside0.mk (below_step (by repeat (first | (with_reducible first | exact HB.out | apply below_alloc | apply pw_below_drewN | apply below_drew1) | exact HB.out)) hb); have n1_ := Aside0.mk (hbox); have n2_ := Aside0.mk ((by rw [hg]; exact (below_size (by repeat (first | (with_reducible first | exact HB.out | apply below_alloc | apply pw_below_drewN | apply below_drew1) | exact HB.out))) : w.heap.size ≤ gb519)); have n3_ := Aside0.mk ((by rw [hg]; exact (below_size (by repeat (first | (with_reducible first | exact HB.out | apply below_alloc | apply pw_below_drewN | apply below_drew1) | exact HB.out))) : w.heap.size ≤ gb519)); clear HB; have HB := n0_; have BK519 := n1_; have GW519 := n2_; have GE519 := n3_; clear n0_ n1_ n2_ n3_; clear hb hbox hg))
      have n0_ := Aside0.mk (blk_drew BK519.out)
      have n1_ := Aside0.mk (below_drew1 HB.out)
      clear BK519
      clear HB
      have BK519 := n0_
      have HB := n1_
      clear n0_ n1_
      refine start_ (n := 19) (S := fun w' => w'.cell? ⟨gb519, 0, none⟩ = some (.int .i64 a0_0) ∧ w'.cell? ⟨gb519, 1, none⟩ = some (.int .i64 a0_1) ∧ w'.cell? ⟨gb519, 2, none⟩ = some (.slice A0_2 l0_2.length c0_2) ∧ w'.cell? ⟨gb519, 3, none⟩ = some (.slice A0_3 l0_3.length c0_3)) (ds := []) #[false, false, false, false, false, false, false, false, false, false, false, false, false, false, false, false, false, false, false] (by kernel_rfl) rfl rfl ⟨(blk_cell BK519.out 0).trans rfl, (blk_cell BK519.out 1).trans rfl, (blk_cell BK519.out 2).trans rfl, (blk_cell BK519.out 3).trans rfl⟩ (fun hHeld => ?_); refine with_tabW impl_ColOk.tab1 impl_ColOk.bits1 (fun HT_ HW_ => ?_)
      generalize w8.drew = w9 at BK519 HB hHeld ⊢
      refine pure_ (i := 0) (N := some 3) (v := ?_) (a' := ?_) #[true, false, false, false, false, false, false, false, false, false, false, false, false, false, false, false, false, false, false] rfl rfl (any_of HT_.out (by kernel_rfl)) (fun _ _ _ h => h) (Or.inl ⟨by rfl, ?_⟩) ?_ ?_
      rotate_left
      · intro w'
        go_simp
        with_reducible rfl
      rotate_left
      · simp only [Act.put, List.setIfInBounds_toArray, List.set_cons_zero, List.set_cons_succ, i64_w, i32_w]
        rfl
      refine take_ (i := 1) (N := some 4) (v := ?_) (a' := ?_) #[true, true, false, false, false, false, false, false, false, false, false, false, false, false, false, false, false, false, false] rfl rfl (take_ofW HT_.out HW_.out (by kernel_rfl)) (fun _ _ _ h => h) (Or.inl ⟨by rfl, ?_⟩) hHeld ?_ ?_
      rotate_left
      · rintro w' ⟨s0, s1, s2, s3⟩
        go_simp
        with_reducible rfl
      rotate_left
      · simp only [Act.put, List.setIfInBounds_toArray, List.set_cons_zero, List.set_cons_succ, i64_w, i32_w]
        rfl
      refine one_ (i := 2) (N := some 5) #[true, true, true, false, false, false, false, false, false, false, false, false, false, false, false, false, false, false, false] rfl rfl (one_of HT_.out (by kernel_rfl)) (by decide) (fun K hK => ?_)
      refine goes_ Try.func53 (by kernel_rfl) rfl #[.int .i64 a0_0, .int .i64 1, .int .i64 2] (by rfl) rfl rfl (by (try simp only [List.map_toArray, List.map_cons, List.map_nil]); first | done | rfl | (simp only [List.length_drop, List.length_take]; rfl)) ?_
      with_reducible refine (impl_within.calls a0_0 1 2 true _ A2.out).mono ?_
      rintro e w' ⟨rfl, ⟨nd, rfl⟩⟩
      refine ⟨_, rfl, ?_⟩
      refine hK.out _ _ ⟨(blk_cell BK519.out 0).trans rfl, (blk_cell BK519.out 1).trans rfl, (blk_cell BK519.out 2).trans rfl, (blk_cell BK519.out 3).trans rfl⟩ (fun hHeld => ?_)
      clear hK K
      refine norm_ (a' := ?_) ?_ ?_
      rotate_left
      · show Act.put _ (some 5) _ = _
        simp only [Act.put, List.setIfInBounds_toArray, List.set_cons_zero, List.set_cons_succ, i64_w, i32_w]
        rfl
      refine pure_ (i := 3) (N := some 6) (v := ?_) (a' := ?_) #[true, true, true, true, false, false, false, false, false, false, false, false, false, false, false, false, false, false, false] rfl rfl (any_of HT_.out (by kernel_rfl)) (fun _ _ _ h => h) (Or.inl ⟨by rfl, ?_⟩) ?_ ?_
      rotate_left
      · intro w'
        go_simp
        with_reducible rfl
      rotate_left
      · simp only [Act.put, List.setIfInBounds_toArray, List.set_cons_zero, List.set_cons_succ, i64_w, i32_w]
        rfl
      refine pure_ (i := 4) (N := some 7) (v := ?_) (a' := ?_) #[true, true, true, true, true, false, false, false, false, false, false, false, false, false, false, false, false, false, false] rfl rfl (any_of HT_.out (by kernel_rfl)) (fun _ _ _ h => h) (Or.inl ⟨by rfl, ?_⟩) ?_ ?_
      rotate_left
      · intro w'
        go_simp
        with_reducible rfl
      rotate_left
      · simp only [Act.put, List.setIfInBounds_toArray, List.set_cons_zero, List.set_cons_succ, i64_w, i32_w]
        rfl
      refine pure_ (i := 6) (N := some 9) (v := ?_) (a' := ?_) #[true, true, true, true, true, false, true, false, false, false, false, false, false, false, false, false, false, false, false] rfl rfl (any_of HT_.out (by kernel_rfl)) (fun _ _ _ h => h) (Or.inl ⟨by rfl, ?_⟩) ?_ ?_
      rotate_left
      · intro w'
        go_simp
        with_reducible rfl
      rotate_left
      · simp only [Act.put, List.setIfInBounds_toArray, List.set_cons_zero, List.set_cons_succ, i64_w, i32_w]
        rfl
      refine pure_ (i := 8) (N := some 11) (v := ?_) (a' := ?_) #[true, true, true, true, true, false, true, false, true, false, false, false, false, false, false, false, false, false, false] rfl rfl (any_of HT_.out (by kernel_rfl)) (fun _ _ _ h => h) (Or.inl ⟨by rfl, ?_⟩) ?_ ?_
      rotate_left
      · intro w'
        go_simp
        with_reducible rfl
      rotate_left
      · simp only [Act.put, List.setIfInBounds_toArray, List.set_cons_zero, List.set_cons_succ, i64_w, i32_w]
        rfl
      refine take_ (i := 5) (N := some 8) (v := ?_) (a' := ?_) #[true, true, true, true, true, true, true, false, true, false, false, false, false, false, false, false, false, false, false] rfl rfl (take_ofW HT_.out HW_.out (by kernel_rfl)) (fun _ _ _ h => h) (Or.inl ⟨by rfl, ?_⟩) hHeld ?_ ?_
      rotate_left
      · rintro w' ⟨s0, s1, s2, s3⟩
        go_simp
        with_reducible rfl
      rotate_left
      · simp only [Act.put, List.setIfInBounds_toArray, List.set_cons_zero, List.set_cons_succ, i64_w, i32_w]
        rfl
      refine take_ (i := 7) (N := some 10) (v := ?_) (a' := ?_) #[true, true, true, true, true, true, true, true, true, false, false, false, false, false, false, false, false, false, false] rfl rfl (take_ofW HT_.out HW_.out (by kernel_rfl)) (fun _ _ _ h => h) (Or.inl ⟨by rfl, ?_⟩) hHeld ?_ ?_
      rotate_left
      · rintro w' ⟨s0, s1, s2, s3⟩
        go_simp
        with_reducible rfl
      rotate_left
      · simp only [Act.put, List.setIfInBounds_toArray, List.set_cons_zero, List.set_cons_succ, i64_w, i32_w]
        rfl
      refine take_ (i := 9) (N := some 12) (v := ?_) (a' := ?_) #[true, true, true, true, true, true, true, true, true, true, false, false, false, false, false, false, false, false, false] rfl rfl (take_ofW HT_.out HW_.out (by kernel_rfl)) (fun _ _ _ h => h) (Or.inl ⟨by rfl, ?_⟩) hHeld ?_ ?_
      rotate_left
      · rintro w' ⟨s0, s1, s2, s3⟩
        go_simp
        with_reducible rfl
      rotate_left
      · simp only [Act.put, List.setIfInBounds_toArray, List.set_cons_zero, List.set_cons_succ, i64_w, i32_w]
        rfl
      refine one_ (i := 10) (N := some 13) #[true, true, true, true, true, true, true, true, true, true, true, false, false, false, false, false, false, false, false] rfl rfl (one_of HT_.out (by kernel_rfl)) (by decide) (fun K hK => ?_)
      refine goes_ Try.func75 (by kernel_rfl) rfl #[.int .i64 a0_1] (by rfl) rfl rfl (by (try simp only [List.map_toArray, List.map_cons, List.map_nil]); first | done | rfl | (simp only [List.length_drop, List.length_take]; rfl)) ?_
      with_reducible refine (impl_TypeLen.calls a0_1 t521 _ A4.out).mono ?_
      rintro e w10 ⟨rfl, hb⟩
      refine ⟨_, rfl, ?_⟩
      have n0_ := Aside0.mk (blk_below (g := gb519) (o := .cells #[.int .i64 a0_0, .int .i64 a0_1, .slice A0_2 l0_2.length c0_2, .slice A0_3 l0_3.length c0_3] 27 (0, 0)) (by (with_reducible repeat (first | refine blk_drewN ?_ _ | refine blk_drew ?_ | refine blk_alloc ?_ _)); exact BK519.out) hb)
      have n1_ := Aside0.mk (below_step (by repeat (first | (with_reducible first | exact HB.out | apply below_alloc | apply pw_below_drewN | apply below_drew1 | refine below_set ?_ GE519.out) | exact HB.out)) hb)
      clear BK519
      clear HB
      have BK519 := n0_
      have HB := n1_
      clear n0_ n1_
      (try clear hb)
      (try clear hb2)
      (try clear hk)
      (try clear hi)
      refine hK.out _ _ ⟨(blk_cell BK519.out 0).trans rfl, (blk_cell BK519.out 1).trans rfl, (blk_cell BK519.out 2).trans rfl, (blk_cell BK519.out 3).trans rfl⟩ (fun hHeld => ?_)
      clear hK K
      refine norm_ (a' := ?_) ?_ ?_
      rotate_left
      · show Act.put _ (some 13) _ = _
        simp only [Act.put, List.setIfInBounds_toArray, List.set_cons_zero, List.set_cons_succ, i64_w, i32_w]
        rfl
      refine one_ (i := 11) (N := some 14) #[true, true, true, true, true, true, true, true, true, true, true, true, false, false, false, false, false, false, false] rfl rfl (one_of HT_.out (by kernel_rfl)) (by decide) (fun K hK => ?_)
      refine goes_ Try.func89 (by kernel_rfl) rfl #[.int .i64 a0_1, .slice A0_2 l0_2.length c0_2, .int .i64 t521] (by rfl) rfl rfl (by (try simp only [List.map_toArray, List.map_cons, List.map_nil]); first | done | rfl | (simp only [List.length_drop, List.length_take]; rfl)) ?_
      with_reducible refine (impl_sized.calls a0_1 _ _ l0_2 t521 true _ ?side1 ?side2 A5.out).mono ?_
      (case side1 => repeat (first | exact (Kd.C_below HR0_2.out HB.out) | (with_reducible refine Kd.C_alloc ?_ _) | (with_reducible refine Kd.C_drewN ?_ _) | (with_reducible refine Kd.C_drew ?_)))
      (case side2 => exact HC0_2.out)
      rintro e w11 ⟨rfl, hb⟩
      refine ⟨_, rfl, ?_⟩
      have n0_ := Aside0.mk (blk_below (g := gb519) (o := .cells #[.int .i64 a0_0, .int .i64 a0_1, .slice A0_2 l0_2.length c0_2, .slice A0_3 l0_3.length c0_3] 27 (0, 0)) (by (with_reducible repeat (first | refine blk_drewN ?_ _ | refine blk_drew ?_ | refine blk_alloc ?_ _)); exact BK519.out) hb)
      have n1_ := Aside0.mk (below_step (by repeat (first | (with_reducible first | exact HB.out | apply below_alloc | apply pw_below_drewN | apply below_drew1 | refine below_set ?_ GE519.out) | exact HB.out)) hb)
      clear BK519
      clear HB
      have BK519 := n0_
      have HB := n1_
      clear n0_ n1_
      (try clear hb)
      (try clear hb2)
      (try clear hk)
      (try clear hi)
      refine hK.out _ _ ⟨(blk_cell BK519.out 0).trans rfl, (blk_cell BK519.out 1).trans rfl, (blk_cell BK519.out 2).trans rfl, (blk_cell BK519.out 3).trans rfl⟩ (fun hHeld => ?_)
      clear hK K
      refine norm_ (a' := ?_) ?_ ?_
      rotate_left
      · show Act.put _ (some 14) _ = _
        simp only [Act.put, List.setIfInBounds_toArray, List.set_cons_zero, List.set_cons_succ, i64_w, i32_w]
        rfl
      refine pure_ (i := 12) (N := some 15) (v := ?_) (a' := ?_) #[true, true, true, true, true, true, true, true, true, true, true, true, true, false, false, false, false, false, false] rfl rfl (any_of HT_.out (by kernel_rfl)) (fun _ _ _ h => h) (Or.inl ⟨by rfl, ?_⟩) ?_ ?_
      rotate_left
      · intro w'
        go_simp
        with_reducible rfl
      rotate_left
      · simp only [Act.put, List.setIfInBounds_toArray, List.set_cons_zero, List.set_cons_succ, i64_w, i32_w]
        rfl
      refine pure_ (i := 13) (N := some 16) (v := ?_) (a' := ?_) #[true, true, true, true, true, true, true, true, true, true, true, true, true, true, false, false, false, false, false] rfl rfl (any_of HT_.out (by kernel_rfl)) (fun _ _ _ h => h) (Or.inl ⟨by rfl, ?_⟩) ?_ ?_
      rotate_left
      · intro w'
        go_simp
        with_reducible rfl
      rotate_left
      · simp only [Act.put, List.setIfInBounds_toArray, List.set_cons_zero, List.set_cons_succ, i64_w, i32_w]
        rfl
      refine pure_ (i := 14) (N := some 17) (v := ?_) (a' := ?_) #[true, true, true, true, true, true, true, true, true, true, true, true, true, true, true, false, false, false, false] rfl rfl (any_of HT_.out (by kernel_rfl)) (fun _ _ _ h => h) (Or.inl ⟨by rfl, ?_⟩) ?_ ?_
      rotate_left
      · intro w'
        go_simp
        with_reducible rfl
      rotate_left
      · simp only [Act.put, List.setIfInBounds_toArray, List.set_cons_zero, List.set_cons_succ, i64_w, i32_w]
        rfl
      refine take_ (i := 15) (N := some 18) (v := ?_) (a' := ?_) #[true, true, true, true, true, true, true, true, true, true, true, true, true, true, true, true, false, false, false] rfl rfl (take_ofW HT_.out HW_.out (by kernel_rfl)) (fun _ _ _ h => h) (Or.inl ⟨by rfl, ?_⟩) hHeld ?_ ?_
      rotate_left
      · rintro w' ⟨s0, s1, s2, s3⟩
        go_simp
        with_reducible rfl
      rotate_left
      · simp only [Act.put, List.setIfInBounds_toArray, List.set_cons_zero, List.set_cons_succ, i64_w, i32_w]
        rfl
      refine one_ (i := 16) (N := some 19) #[true, true, true, true, true, true, true, true, true, true, true, true, true, true, true, true, true, false, false] rfl rfl (one_of HT_.out (by kernel_rfl)) (by decide) (fun K hK => ?_)
      refine goes_ Try.func90 (by kernel_rfl) rfl #[.slice A0_3 l0_3.length c0_3, .int .i64 9] (by rfl) rfl rfl (by (try simp only [List.map_toArray, List.map_cons, List.map_nil]); first | done | rfl | (simp only [List.length_drop, List.length_take]; rfl)) ?_
      with_reducible refine (impl_idsOk.calls _ _ l0_3 9 t523 _ ?side1 ?side2 A7.out).mono ?_
      (case side1 => repeat (first | exact (Kd.C_below HR0_3.out HB.out) | (with_reducible refine Kd.C_alloc ?_ _) | (with_reducible refine Kd.C_drewN ?_ _) | (with_reducible refine Kd.C_drew ?_)))
      (case side2 => exact HC0_3.out)
      rintro e w12 ⟨rfl, hb⟩
      refine ⟨_, rfl, ?_⟩
      have n0_ := Aside0.mk (blk_below (g := gb519) (o := .cells #[.int .i64 a0_0, .int .i64 a0_1, .slice A0_2 l0_2.length c0_2, .slice A0_3 l0_3.length c0_3] 27 (0, 0)) (by (with_reducible repeat (first | refine blk_drewN ?_ _ | refine blk_drew ?_ | refine blk_alloc ?_ _)); exact BK519.out) hb)
      have n1_ := Aside0.mk (below_step (by repeat (first | (with_reducible first | exact HB.out | apply below_alloc | apply pw_below_drewN | apply below_drew1 | refine below_set ?_ GE519.out) | exact HB.out)) hb)
      clear BK519
      clear HB
      have BK519 := n0_
      have HB := n1_
      clear n0_ n1_
      (try clear hb)
      (try clear hb2)
      (try clear hk)
      (try clear hi)
      refine hK.out _ _ ⟨(blk_cell BK519.out 0).trans rfl, (blk_cell BK519.out 1).trans rfl, (blk_cell BK519.out 2).trans rfl, (blk_cell BK519.out 3).trans rfl⟩ (fun hHeld => ?_)
      clear hK K
      refine norm_ (a' := ?_) ?_ ?_
      rotate_left
      · show Act.put _ (some 19) _ = _
        simp only [Act.put, List.setIfInBounds_toArray, List.set_cons_zero, List.set_cons_succ, i64_w, i32_w]
        rfl
      refine pure_ (i := 17) (N := some 20) (v := ?_) (a' := ?_) #[true, true, true, true, true, true, true, true, true, true, true, true, true, true, true, true, true, true, false] rfl rfl (any_of HT_.out (by kernel_rfl)) (fun _ _ _ h => h) (Or.inl ⟨by rfl, ?_⟩) ?_ ?_
      rotate_left
      · intro w'
        go_simp
        with_reducible rfl
      rotate_left
      · simp only [Act.put, List.setIfInBounds_toArray, List.set_cons_zero, List.set_cons_succ, i64_w, i32_w]
        rfl
      refine pure_ (i := 18) (N := some 2) (v := ?_) (a' := ?_) #[true, true, true, true, true, true, true, true, true, true, true, true, true, true, true, true, true, true, true] rfl rfl (any_of HT_.out (by kernel_rfl)) (fun _ _ _ h => h) (Or.inl ⟨by rfl, ?_⟩) ?_ ?_
      rotate_left
      · intro w'
        go_simp
        with_reducible rfl
      rotate_left
      · simp only [Act.put, List.setIfInBounds_toArray, List.set_cons_zero, List.set_cons_succ, i64_w, i32_w]
        rfl
      refine done_ (done_of HT_.out (by kernel_rfl)) ?_
      try go_wp2
      go_ret
      exact ⟨by first | rfl | (simp [errW_none, errW_some] <;> rfl) | (simp [*, errW_none, errW_some] <;> rfl), by repeat (first | (with_reducible first | exact HB.out | apply below_alloc | apply pw_below_drewN | apply below_drew1 | refine below_set ?_ GE519.out) | exact HB.out)⟩
    · replace c6 := Bool.eq_false_iff.mpr c6
      subst c6
      have H1 : (some false) = some r := by rw [if_neg (show ¬ (false = true) by decide)] at H; exact H
      clear H
      have H := H1
      clear H1
      obtain rfl := Option.some.inj H
      go_enter Try.func81, Try.ntmps81
      try go_wp2_with (first | ((with_reducible refine gate_dst (N := 1) rfl ?_); refine box_event ?hg (N := 1) ?hd (cs := #[.int .i64 a0_0, .int .i64 a0_1, .slice A0_2 l0_2.length c0_2, .slice A0_3 l0_3.length c0_3]) (t := 27) ?hr ?_; (case hd => rfl); (case hg => rfl); (case hr => first | (go_simp; done) | (go_simp; rfl)); intro gb519 hg w13 hbox hb; have n0_ := Aside0.mk (below_step (by repeat (first | (with_reducible first | exact HB.out | apply below_alloc | apply pw_below_drewN | apply below_drew1) | exact HB.out)) hb); have n1_ := Aside0.mk (hbox); have n2_ := Aside0.mk ((by rw [hg]; exact (below_size (by repeat (first | (with_reducible first | exact HB.out | apply below_alloc | apply pw_below_drewN | apply below_drew1) | exact HB.out))) : w.heap.size ≤ gb519)); have n3_ := Aside0.mk ((by rw [hg]; exact (below_size (by repeat (first | (with_reducible first | exact HB.out | apply below_alloc | apply pw_below_drewN | apply below_drew1) | exact HB.out))) : w.heap.size ≤ gb519)); clear HB; have HB := n0_; have BK519 := n1_; have GW519 := n2_; have GE519 := n3_; clear n0_ n1_ n2_ n3_; clear hb hbox hg))
      have n0_ := Aside0.mk (blk_drew BK519.out)
      have n1_ := Aside0.mk (below_drew1 HB.out)
      clear BK519
      clear HB
      have BK519 := n0_
      have HB := n1_
      clear n0_ n1_
      refine start_ (n := 19) (S := fun w' => w'.cell? ⟨gb519, 0, none⟩ = some (.int .i64 a0_0) ∧ w'.cell? ⟨gb519, 1, none⟩ = some (.int .i64 a0_1) ∧ w'.cell? ⟨gb519, 2, none⟩ = some (.slice A0_2 l0_2.length c0_2) ∧ w'.cell? ⟨gb519, 3, none⟩ = some (.slice A0_3 l0_3.length c0_3)) (ds := []) #[false, false, false, false, false, false, false, false, false, false, false, false, false, false, false, false, false, false, false] (by kernel_rfl) rfl rfl ⟨(blk_cell BK519.out 0).trans rfl, (blk_cell BK519.out 1).trans rfl, (blk_cell BK519.out 2).trans rfl, (blk_cell BK519.out 3).trans rfl⟩ (fun hHeld => ?_); refine with_tabW impl_ColOk.tab1 impl_ColOk.bits1 (fun HT_ HW_ => ?_)
      generalize w13.drew = w14 at BK519 HB hHeld ⊢
      refine pure_ (i := 0) (N := some 3) (v := ?_) (a' := ?_) #[true, false, false, false, false, false, false, false, false, false, false, false, false, false, false, false, false, false, false] rfl rfl (any_of HT_.out (by kernel_rfl)) (fun _ _ _ h => h) (Or.inl ⟨by rfl, ?_⟩) ?_ ?_
      rotate_left
      · intro w'
        go_simp
        with_reducible rfl
      rotate_left
      · simp only [Act.put, List.setIfInBounds_toArray, List.set_cons_zero, List.set_cons_succ, i64_w, i32_w]
        rfl
      refine take_ (i := 1) (N := some 4) (v := ?_) (a' := ?_) #[true, true, false, false, false, false, false, false, false, false, false, false, false, false, false, false, false, false, false] rfl rfl (take_ofW HT_.out HW_.out (by kernel_rfl)) (fun _ _ _ h => h) (Or.inl ⟨by rfl, ?_⟩) hHeld ?_ ?_
      rotate_left
      · rintro w' ⟨s0, s1, s2, s3⟩
        go_simp
        with_reducible rfl
      rotate_left
      · simp only [Act.put, List.setIfInBounds_toArray, List.set_cons_zero, List.set_cons_succ, i64_w, i32_w]
        rfl
      refine one_ (i := 2) (N := some 5) #[true, true, true, false, false, false, false, false, false, false, false, false, false, false, false, false, false, false, false] rfl rfl (one_of HT_.out (by kernel_rfl)) (by decide) (fun K hK => ?_)
      refine goes_ Try.func53 (by kernel_rfl) rfl #[.int .i64 a0_0, .int .i64 1, .int .i64 2] (by rfl) rfl rfl (by (try simp only [List.map_toArray, List.map_cons, List.map_nil]); first | done | rfl | (simp only [List.length_drop, List.length_take]; rfl)) ?_
      with_reducible refine (impl_within.calls a0_0 1 2 true _ A2.out).mono ?_
      rintro e w' ⟨rfl, ⟨nd, rfl⟩⟩
      refine ⟨_, rfl, ?_⟩
      refine hK.out _ _ ⟨(blk_cell BK519.out 0).trans rfl, (blk_cell BK519.out 1).trans rfl, (blk_cell BK519.out 2).trans rfl, (blk_cell BK519.out 3).trans rfl⟩ (fun hHeld => ?_)
      clear hK K
      refine norm_ (a' := ?_) ?_ ?_
      rotate_left
      · show Act.put _ (some 5) _ = _
        simp only [Act.put, List.setIfInBounds_toArray, List.set_cons_zero, List.set_cons_succ, i64_w, i32_w]
        rfl
      refine pure_ (i := 3) (N := some 6) (v := ?_) (a' := ?_) #[true, true, true, true, false, false, false, false, false, false, false, false, false, false, false, false, false, false, false] rfl rfl (any_of HT_.out (by kernel_rfl)) (fun _ _ _ h => h) (Or.inl ⟨by rfl, ?_⟩) ?_ ?_
      rotate_left
      · intro w'
        go_simp
        with_reducible rfl
      rotate_left
      · simp only [Act.put, List.setIfInBounds_toArray, List.set_cons_zero, List.set_cons_succ, i64_w, i32_w]
        rfl
      refine pure_ (i := 4) (N := some 7) (v := ?_) (a' := ?_) #[true, true, true, true, true, false, false, false, false, false, false, false, false, false, false, false, false, false, false] rfl rfl (any_of HT_.out (by kernel_rfl)) (fun _ _ _ h => h) (Or.inl ⟨by rfl, ?_⟩) ?_ ?_
      rotate_left
      · intro w'
        go_simp
        with_reducible rfl
      rotate_left
      · simp only [Act.put, List.setIfInBounds_toArray, List.set_cons_zero, List.set_cons_succ, i64_w, i32_w]
        rfl
      refine pure_ (i := 6) (N := some 9) (v := ?_) (a' := ?_) #[true, true, true, true, true, false, true, false, false, false, false, false, false, false, false, false, false, false, false] rfl rfl (any_of HT_.out (by kernel_rfl)) (fun _ _ _ h => h) (Or.inl ⟨by rfl, ?_⟩) ?_ ?_
      rotate_left
      · intro w'
        go_simp
        with_reducible rfl
      rotate_left
      · simp only [Act.put, List.setIfInBounds_toArray, List.set_cons_zero, List.set_cons_succ, i64_w, i32_w]
        rfl
      refine pure_ (i := 8) (N := some 11) (v := ?_) (a' := ?_) #[true, true, true, true, true, false, true, false, true, false, false, false, false, false, false, false, false, false, false] rfl rfl (any_of HT_.out (by kernel_rfl)) (fun _ _ _ h => h) (Or.inl ⟨by rfl, ?_⟩) ?_ ?_
      rotate_left
      · intro w'
        go_simp
        with_reducible rfl
      rotate_left
      · simp only [Act.put, List.setIfInBounds_toArray, List.set_cons_zero, List.set_cons_succ, i64_w, i32_w]
        rfl
      refine take_ (i := 5) (N := some 8) (v := ?_) (a' := ?_) #[true, true, true, true, true, true, true, false, true, false, false, false, false, false, false, false, false, false, false] rfl rfl (take_ofW HT_.out HW_.out (by kernel_rfl)) (fun _ _ _ h => h) (Or.inl ⟨by rfl, ?_⟩) hHeld ?_ ?_
      rotate_left
      · rintro w' ⟨s0, s1, s2, s3⟩
        go_simp
        with_reducible rfl
      rotate_left
      · simp only [Act.put, List.setIfInBounds_toArray, List.set_cons_zero, List.set_cons_succ, i64_w, i32_w]
        rfl
      refine take_ (i := 7) (N := some 10) (v := ?_) (a' := ?_) #[true, true, true, true, true, true, true, true, true, false, false, false, false, false, false, false, false, false, false] rfl rfl (take_ofW HT_.out HW_.out (by kernel_rfl)) (fun _ _ _ h => h) (Or.inl ⟨by rfl, ?_⟩) hHeld ?_ ?_
      rotate_left
      · rintro w' ⟨s0, s1, s2, s3⟩
        go_simp
        with_reducible rfl
      rotate_left
      · simp only [Act.put, List.setIfInBounds_toArray, List.set_cons_zero, List.set_cons_succ, i64_w, i32_w]
        rfl
      refine take_ (i := 9) (N := some 12) (v := ?_) (a' := ?_) #[true, true, true, true, true, true, true, true, true, true, false, false, false, false, false, false, false, false, false] rfl rfl (take_ofW HT_.out HW_.out (by kernel_rfl)) (fun _ _ _ h => h) (Or.inl ⟨by rfl, ?_⟩) hHeld ?_ ?_
      rotate_left
      · rintro w' ⟨s0, s1, s2, s3⟩
        go_simp
        with_reducible rfl
      rotate_left
      · simp only [Act.put, List.setIfInBounds_toArray, List.set_cons_zero, List.set_cons_succ, i64_w, i32_w]
        rfl
      refine one_ (i := 10) (N := some 13) #[true, true, true, true, true, true, true, true, true, true, true, false, false, false, false, false, false, false, false] rfl rfl (one_of HT_.out (by kernel_rfl)) (by decide) (fun K hK => ?_)
      refine goes_ Try.func75 (by kernel_rfl) rfl #[.int .i64 a0_1] (by rfl) rfl rfl (by (try simp only [List.map_toArray, List.map_cons, List.map_nil]); first | done | rfl | (simp only [List.length_drop, List.length_take]; rfl)) ?_
      with_reducible refine (impl_TypeLen.calls a0_1 t521 _ A4.out).mono ?_
      rintro e w15 ⟨rfl, hb⟩
      refine ⟨_, rfl, ?_⟩
      have n0_ := Aside0.mk (blk_below (g := gb519) (o := .cells #[.int .i64 a0_0, .int .i64 a0_1, .slice A0_2 l0_2.length c0_2, .slice A0_3 l0_3.length c0_3] 27 (0, 0)) (by (with_reducible repeat (first | refine blk_drewN ?_ _ | refine blk_drew ?_ | refine blk_alloc ?_ _)); exact BK519.out) hb)
      have n1_ := Aside0.mk (below_step (by repeat (first | (with_reducible first | exact HB.out | apply below_alloc | apply pw_below_drewN | apply below_drew1 | refine below_set ?_ GE519.out) | exact HB.out)) hb)
      clear BK519
      clear HB
      have BK519 := n0_
      have HB := n1_
      clear n0_ n1_
      (try clear hb)
      (try clear hb2)
      (try clear hk)
      (try clear hi)
      refine hK.out _ _ ⟨(blk_cell BK519.out 0).trans rfl, (blk_cell BK519.out 1).trans rfl, (blk_cell BK519.out 2).trans rfl, (blk_cell BK519.out 3).trans rfl⟩ (fun hHeld => ?_)
      clear hK K
      refine norm_ (a' := ?_) ?_ ?_
      rotate_left
      · show Act.put _ (some 13) _ = _
        simp only [Act.put, List.setIfInBounds_toArray, List.set_cons_zero, List.set_cons_succ, i64_w, i32_w]
        rfl
      refine one_ (i := 11) (N := some 14) #[true, true, true, true, true, true, true, true, true, true, true, true, false, false, false, false, false, false, false] rfl rfl (one_of HT_.out (by kernel_rfl)) (by decide) (fun K hK => ?_)
      refine goes_ Try.func89 (by kernel_rfl) rfl #[.int .i64 a0_1, .slice A0_2 l0_2.length c0_2, .int .i64 t521] (by rfl) rfl rfl (by (try simp only [List.map_toArray, List.map_cons, List.map_nil]); first | done | rfl | (simp only [List.length_drop, List.length_take]; rfl)) ?_
      with_reducible refine (impl_sized.calls a0_1 _ _ l0_2 t521 false _ ?side1 ?side2 A5.out).mono ?_
      (case side1 => repeat (first | exact (Kd.C_below HR0_2.out HB.out) | (with_reducible refine Kd.C_alloc ?_ _) | (with_reducible refine Kd.C_drewN ?_ _) | (with_reducible refine Kd.C_drew ?_)))
      (case side2 => exact HC0_2.out)
      rintro e w16 ⟨rfl, hb⟩
      refine ⟨_, rfl, ?_⟩
      have n0_ := Aside0.mk (blk_below (g := gb519) (o := .cells #[.int .i64 a0_0, .int .i64 a0_1, .slice A0_2 l0_2.length c0_2, .slice A0_3 l0_3.length c0_3] 27 (0, 0)) (by (with_reducible repeat (first | refine blk_drewN ?_ _ | refine blk_drew ?_ | refine blk_alloc ?_ _)); exact BK519.out) hb)
      have n1_ := Aside0.mk (below_step (by repeat (first | (with_reducible first | exact HB.out | apply below_alloc | apply pw_below_drewN | apply below_drew1 | refine below_set ?_ GE519.out) | exact HB.out)) hb)
      clear BK519
      clear HB
      have BK519 := n0_
      have HB := n1_
      clear n0_ n1_
      (try clear hb)
      (try clear hb2)
      (try clear hk)
      (try clear hi)
      refine hK.out _ _ ⟨(blk_cell BK519.out 0).trans rfl, (blk_cell BK519.out 1).trans rfl, (blk_cell BK519.out 2).trans rfl, (blk_cell BK519.out 3).trans rfl⟩ (fun hHeld => ?_)
      clear hK K
      refine norm_ (a' := ?_) ?_ ?_
      rotate_left
      · show Act.put _ (some 14) _ = _
        simp only [Act.put, List.setIfInBounds_toArray, List.set_cons_zero, List.set_cons_succ, i64_w, i32_w]
        rfl
      refine pure_ (i := 12) (N := some 15) (v := ?_) (a' := ?_) #[true, true, true, true, true, true, true, true, true, true, true, true, true, false, false, false, false, false, false] rfl rfl (any_of HT_.out (by kernel_rfl)) (fun _ _ _ h => h) (Or.inl ⟨by rfl, ?_⟩) ?_ ?_
      rotate_left
      · intro w'
        go_simp
        with_reducible rfl
      rotate_left
      · simp only [Act.put, List.setIfInBounds_toArray, List.set_cons_zero, List.set_cons_succ, i64_w, i32_w]
        rfl
      refine pure_ (i := 13) (N := some 16) (v := ?_) (a' := ?_) #[true, true, true, true, true, true, true, true, true, true, true, true, true, true, false, false, false, false, false] rfl rfl (any_of HT_.out (by kernel_rfl)) (fun _ _ _ h => h) (Or.inl ⟨by rfl, ?_⟩) ?_ ?_
      rotate_left
      · intro w'
        go_simp
        with_reducible rfl
      rotate_left
      · simp only [Act.put, List.setIfInBounds_toArray, List.set_cons_zero, List.set_cons_succ, i64_w, i32_w]
        rfl
      refine pure_ (i := 14) (N := some 17) (v := undef) (a' := ?_) #[true, true, true, true, true, true, true, true, true, true, true, true, true, true, true, false, false, false, false] rfl rfl (any_of HT_.out (by kernel_rfl)) (fun _ _ _ h => h) (Or.inr ⟨by rfl, rfl⟩) ?_ ?_
      rotate_left
      · simp only [Act.put, List.setIfInBounds_toArray, List.set_cons_zero, List.set_cons_succ, i64_w, i32_w]
        rfl
      refine pure_ (i := 15) (N := some 18) (v := undef) (a' := ?_) #[true, true, true, true, true, true, true, true, true, true, true, true, true, true, true, true, false, false, false] rfl rfl (any_of HT_.out (by kernel_rfl)) (fun _ _ _ h => h) (Or.inr ⟨by rfl, rfl⟩) ?_ ?_
      rotate_left
      · simp only [Act.put, List.setIfInBounds_toArray, List.set_cons_zero, List.set_cons_succ, i64_w, i32_w]
        rfl
      refine pure_ (i := 16) (N := some 19) (v := undef) (a' := ?_) #[true, true, true, true, true, true, true, true, true, true, true, true, true, true, true, true, true, false, false] rfl rfl (any_of HT_.out (by kernel_rfl)) (fun _ _ _ h => h) (Or.inr ⟨by rfl, rfl⟩) ?_ ?_
      rotate_left
      · simp only [Act.put, List.setIfInBounds_toArray, List.set_cons_zero, List.set_cons_succ, i64_w, i32_w]
        rfl
      refine pure_ (i := 17) (N := some 20) (v := ?_) (a' := ?_) #[true, true, true, true, true, true, true, true, true, true, true, true, true, true, true, true, true, true, false] rfl rfl (any_of HT_.out (by kernel_rfl)) (fun _ _ _ h => h) (Or.inl ⟨by rfl, ?_⟩) ?_ ?_
      rotate_left
      · intro w'
        go_simp
        with_reducible rfl
      rotate_left
      · simp only [Act.put, List.setIfInBounds_toArray, List.set_cons_zero, List.set_cons_succ, i64_w, i32_w]
        rfl
      refine pure_ (i := 18) (N := some 2) (v := ?_) (a' := ?_) #[true, true, true, true, true, true, true, true, true, true, true, true, true, true, true, true, true, true, true] rfl rfl (any_of HT_.out (by kernel_rfl)) (fun _ _ _ h => h) (Or.inl ⟨by rfl, ?_⟩) ?_ ?_
      rotate_left
      · intro w'
        go_simp
        with_reducible rfl
      rotate_left
      · simp only [Act.put, List.setIfInBounds_toArray, List.set_cons_zero, List.set_cons_succ, i64_w, i32_w]
        rfl
      refine done_ (done_of HT_.out (by kernel_rfl)) ?_
      try go_wp2
      go_ret
      exact ⟨by first | rfl | (simp [errW_none, errW_some] <;> rfl) | (simp [*, errW_none, errW_some] <;> rfl), by repeat (first | (with_reducible first | exact HB.out | apply below_alloc | apply pw_below_drewN | apply below_drew1 | refine below_set ?_ GE519.out) | exact HB.out)⟩
  · replace c3 := Bool.eq_false_iff.mpr c3
    subst c3
    have H1 : (some false) = some r := by rw [if_neg (show ¬ (false = true) by decide)] at H; exact H
    clear H
    have H := H1
    clear H1
    obtain rfl := Option.some.inj H
    go_enter Try.func81, Try.ntmps81
    try go_wp2_with (first | ((with_reducible refine gate_dst (N := 1) rfl ?_); refine box_event ?hg (N := 1) ?hd (cs := #[.int .i64 a0_0, .int .i64 a0_1, .slice A0_2 l0_2.length c0_2, .slice A0_3 l0_3.length c0_3]) (t := 27) ?hr ?_; (case hd => rfl); (case hg => rfl); (case hr => first | (go_simp; done) | (go_simp; rfl)); intro gb519 hg w17 hbox hb; have n0_ := Aside0.mk (below_step (by repeat (first | (with_reducible first | exact HB.out | apply below_alloc | apply pw_below_drewN | apply below_drew1) | exact HB.out)) hb); have n1_ := Aside0.mk (hbox); have n2_ := Aside0.mk ((by rw [hg]; exact (below_size (by repeat (first | (with_reducible first | exact HB.out | apply below_alloc | apply pw_below_drewN | apply below_drew1) | exact HB.out))) : w.heap.size ≤ gb519)); have n3_ := Aside0.mk ((by rw [hg]; exact (below_size (by repeat (first | (with_reducible first | exact HB.out | apply below_alloc | apply pw_below_drewN | apply below_drew1) | exact HB.out))) : w.heap.size ≤ gb519)); clear HB; have HB := n0_; have BK519 := n1_; have GW519 := n2_; have GE519 := n3_; clear n0_ n1_ n2_ n3_; clear hb hbox hg))
    have n0_ := Aside0.mk (blk_drew BK519.out)
    have n1_ := Aside0.mk (below_drew1 HB.out)
    clear BK519
    clear HB
    have BK519 := n0_
    have HB := n1_
    clear n0_ n1_
    refine start_ (n := 19) (S := fun w' => w'.cell? ⟨gb519, 0, none⟩ = some (.int .i64 a0_0) ∧ w'.cell? ⟨gb519, 1, none⟩ = some (.int .i64 a0_1) ∧ w'.cell? ⟨gb519, 2, none⟩ = some (.slice A0_2 l0_2.length c0_2) ∧ w'.cell? ⟨gb519, 3, none⟩ = some (.slice A0_3 l0_3.length c0_3)) (ds := []) #[false, false, false, false, false, false, false, false, false, false, false, false, false, false, false, false, false, false, false] (by kernel_rfl) rfl rfl ⟨(blk_cell BK519.out 0).trans rfl, (blk_cell BK519.out 1).trans rfl, (blk_cell BK519.out 2).trans rfl, (blk_cell BK519.out 3).trans rfl⟩ (fun hHeld => ?_); refine with_tabW impl_ColOk.tab1 impl_ColOk.bits1 (fun HT_ HW_ => ?_)
    generalize w17.drew = w18 at BK519 HB hHeld ⊢
    refine pure_ (i := 0) (N := some 3) (v := ?_) (a' := ?_) #[true, false, false, false, false, false, false, false, false, false, false, false, false, false, false, false, false, false, false] rfl rfl (any_of HT_.out (by kernel_rfl)) (fun _ _ _ h => h) (Or.inl ⟨by rfl, ?_⟩) ?_ ?_
    rotate_left
    · intro w'
      go_simp
      with_reducible rfl
    rotate_left
    · simp only [Act.put, List.setIfInBounds_toArray, List.set_cons_zero, List.set_cons_succ, i64_w, i32_w]
      rfl
    refine take_ (i := 1) (N := some 4) (v := ?_) (a' := ?_) #[true, true, false, false, false, false, false, false, false, false, false, false, false, false, false, false, false, false, false] rfl rfl (take_ofW HT_.out HW_.out (by kernel_rfl)) (fun _ _ _ h => h) (Or.inl ⟨by rfl, ?_⟩) hHeld ?_ ?_
    rotate_left
    · rintro w' ⟨s0, s1, s2, s3⟩
      go_simp
      with_reducible rfl
    rotate_left
    · simp only [Act.put, List.setIfInBounds_toArray, List.set_cons_zero, List.set_cons_succ, i64_w, i32_w]
      rfl
    refine one_ (i := 2) (N := some 5) #[true, true, true, false, false, false, false, false, false, false, false, false, false, false, false, false, false, false, false] rfl rfl (one_of HT_.out (by kernel_rfl)) (by decide) (fun K hK => ?_)
    refine goes_ Try.func53 (by kernel_rfl) rfl #[.int .i64 a0_0, .int .i64 1, .int .i64 2] (by rfl) rfl rfl (by (try simp only [List.map_toArray, List.map_cons, List.map_nil]); first | done | rfl | (simp only [List.length_drop, List.length_take]; rfl)) ?_
    with_reducible refine (impl_within.calls a0_0 1 2 false _ A2.out).mono ?_
    rintro e w' ⟨rfl, ⟨nd, rfl⟩⟩
    refine ⟨_, rfl, ?_⟩
    refine hK.out _ _ ⟨(blk_cell BK519.out 0).trans rfl, (blk_cell BK519.out 1).trans rfl, (blk_cell BK519.out 2).trans rfl, (blk_cell BK519.out 3).trans rfl⟩ (fun hHeld => ?_)
    clear hK K
    refine norm_ (a' := ?_) ?_ ?_
    rotate_left
    · show Act.put _ (some 5) _ = _
      simp only [Act.put, List.setIfInBounds_toArray, List.set_cons_zero, List.set_cons_succ, i64_w, i32_w]
      rfl
    refine pure_ (i := 3) (N := some 6) (v := ?_) (a' := ?_) #[true, true, true, true, false, false, false, false, false, false, false, false, false, false, false, false, false, false, false] rfl rfl (any_of HT_.out (by kernel_rfl)) (fun _ _ _ h => h) (Or.inl ⟨by rfl, ?_⟩) ?_ ?_
    rotate_left
    · intro w'
      go_simp
      with_reducible rfl
    rotate_left
    · simp only [Act.put, List.setIfInBounds_toArray, List.set_cons_zero, List.set_cons_succ, i64_w, i32_w]
      rfl
    refine pure_ (i := 4) (N := some 7) (v := undef) (a' := ?_) #[true, true, true, true, true, false, false, false, false, false, false, false, false, false, false, false, false, false, false] rfl rfl (any_of HT_.out (by kernel_rfl)) (fun _ _ _ h => h) (Or.inr ⟨by rfl, rfl⟩) ?_ ?_
    rotate_left
    · simp only [Act.put, List.setIfInBounds_toArray, List.set_cons_zero, List.set_cons_succ, i64_w, i32_w]
      rfl
    refine pure_ (i := 5) (N := some 8) (v := undef) (a' := ?_) #[true, true, true, true, true, true, false, false, false, false, false, false, false, false, false, false, false, false, false] rfl rfl (any_of HT_.out (by kernel_rfl)) (fun _ _ _ h => h) (Or.inr ⟨by rfl, rfl⟩) ?_ ?_
    rotate_left
    · simp only [Act.put, List.setIfInBounds_toArray, List.set_cons_zero, List.set_cons_succ, i64_w, i32_w]
      rfl
    refine pure_ (i := 6) (N := some 9) (v := undef) (a' := ?_) #[true, true, true, true, true, true, true, false, false, false, false, false, false, false, false, false, false, false, false] rfl rfl (any_of HT_.out (by kernel_rfl)) (fun _ _ _ h => h) (Or.inr ⟨by rfl, rfl⟩) ?_ ?_
    rotate_left
    · simp only [Act.put, List.setIfInBounds_toArray, List.set_cons_zero, List.set_cons_succ, i64_w, i32_w]
      rfl
    refine pure_ (i := 7) (N := some 10) (v := undef) (a' := ?_) #[true, true, true, true, true, true, true, true, false, false, false, false, false, false, false, false, false, false, false] rfl rfl (any_of HT_.out (by kernel_rfl)) (fun _ _ _ h => h) (Or.inr ⟨by rfl, rfl⟩) ?_ ?_
    rotate_left
    · simp only [Act.put, List.setIfInBounds_toArray, List.set_cons_zero, List.set_cons_succ, i64_w, i32_w]
      rfl
    refine pure_ (i := 8) (N := some 11) (v := undef) (a' := ?_) #[true, true, true, true, true, true, true, true, true, false, false, false, false, false, false, false, false, false, false] rfl rfl (any_of HT_.out (by kernel_rfl)) (fun _ _ _ h => h) (Or.inr ⟨by rfl, rfl⟩) ?_ ?_
    rotate_left
    · simp only [Act.put, List.setIfInBounds_toArray, List.set_cons_zero, List.set_cons_succ, i64_w, i32_w]
      rfl
    refine pure_ (i := 9) (N := some 12) (v := undef) (a' := ?_) #[true, true, true, true, true, true, true, true, true, true, false, false, false, false, false, false, false, false, false] rfl rfl (any_of HT_.out (by kernel_rfl)) (fun _ _ _ h => h) (Or.inr ⟨by rfl, rfl⟩) ?_ ?_
    rotate_left
    · simp only [Act.put, List.setIfInBounds_toArray, List.set_cons_zero, List.set_cons_succ, i64_w, i32_w]
      rfl
    refine pure_ (i := 10) (N := some 13) (v := undef) (a' := ?_) #[true, true, true, true, true, true, true, true, true, true, true, false, false, false, false, false, false, false, false] rfl rfl (any_of HT_.out (by kernel_rfl)) (fun _ _ _ h => h) (Or.inr ⟨by rfl, rfl⟩) ?_ ?_
    rotate_left
    · simp only [Act.put, List.setIfInBounds_toArray, List.set_cons_zero, List.set_cons_succ, i64_w, i32_w]
      rfl
    refine pure_ (i := 11) (N := some 14) (v := undef) (a' := ?_) #[true, true, true, true, true, true, true, true, true, true, true, true, false, false, false, false, false, false, false] rfl rfl (any_of HT_.out (by kernel_rfl)) (fun _ _ _ h => h) (Or.inr ⟨by rfl, rfl⟩) ?_ ?_
    rotate_left
    · simp only [Act.put, List.setIfInBounds_toArray, List.set_cons_zero, List.set_cons_succ, i64_w, i32_w]
      rfl
    refine pure_ (i := 12) (N := some 15) (v := ?_) (a' := ?_) #[true, true, true, true, true, true, true, true, true, true, true, true, true, false, false, false, false, false, false] rfl rfl (any_of HT_.out (by kernel_rfl)) (fun _ _ _ h => h) (Or.inl ⟨by rfl, ?_⟩) ?_ ?_
    rotate_left
    · intro w'
      go_simp
      with_reducible rfl
    rotate_left
    · simp only [Act.put, List.setIfInBounds_toArray, List.set_cons_zero, List.set_cons_succ, i64_w, i32_w]
      rfl
    refine pure_ (i := 13) (N := some 16) (v := ?_) (a' := ?_) #[true, true, true, true, true, true, true, true, true, true, true, true, true, true, false, false, false, false, false] rfl rfl (any_of HT_.out (by kernel_rfl)) (fun _ _ _ h => h) (Or.inl ⟨by rfl, ?_⟩) ?_ ?_
    rotate_left
    · intro w'
      go_simp
      with_reducible rfl
    rotate_left
    · simp only [Act.put, List.setIfInBounds_toArray, List.set_cons_zero, List.set_cons_succ, i64_w, i32_w]
      rfl
    refine pure_ (i := 14) (N := some 17) (v := undef) (a' := ?_) #[true, true, true, true, true, true, true, true, true, true, true, true, true, true, true, false, false, false, false] rfl rfl (any_of HT_.out (by kernel_rfl)) (fun _ _ _ h => h) (Or.inr ⟨by rfl, rfl⟩) ?_ ?_
    rotate_left
    · simp only [Act.put, List.setIfInBounds_toArray, List.set_cons_zero, List.set_cons_succ, i64_w, i32_w]
      rfl
    refine pure_ (i := 15) (N := some 18) (v := undef) (a' := ?_) #[true, true, true, true, true, true, true, true, true, true, true, true, true, true, true, true, false, false, false] rfl rfl (any_of HT_.out (by kernel_rfl)) (fun _ _ _ h => h) (Or.inr ⟨by rfl, rfl⟩) ?_ ?_
    rotate_left
    · simp only [Act.put, List.setIfInBounds_toArray, List.set_cons_zero, List.set_cons_succ, i64_w, i32_w]
      rfl
    refine pure_ (i := 16) (N := some 19) (v := undef) (a' := ?_) #[true, true, true, true, true, true, true, true, true, true, true, true, true, true, true, true, true, false, false] rfl rfl (any_of HT_.out (by kernel_rfl)) (fun _ _ _ h => h) (Or.inr ⟨by rfl, rfl⟩) ?_ ?_
    rotate_left
    · simp only [Act.put, List.setIfInBounds_toArray, List.set_cons_zero, List.set_cons_succ, i64_w, i32_w]
      rfl
    refine pure_ (i := 17) (N := some 20) (v := ?_) (a' := ?_) #[true, true, true, true, true, true, true, true, true, true, true, true, true, true, true, true, true, true, false] rfl rfl (any_of HT_.out (by kernel_rfl)) (fun _ _ _ h => h) (Or.inl ⟨by rfl, ?_⟩) ?_ ?_
    rotate_left
    · intro w'
      go_simp
      with_reducible rfl
    rotate_left
    · simp only [Act.put, List.setIfInBounds_toArray, List.set_cons_zero, List.set_cons_succ, i64_w, i32_w]
      rfl
    refine pure_ (i := 18) (N := some 2) (v := ?_) (a' := ?_) #[true, true, true, true, true, true, true, true, true, true, true, true, true, true, true, true, true, true, true] rfl rfl (any_of HT_.out (by kernel_rfl)) (fun _ _ _ h => h) (Or.inl ⟨by rfl, ?_⟩) ?_ ?_
    rotate_left
    · intro w'
      go_simp
      with_reducible rfl
    rotate_left
    · simp only [Act.put, List.setIfInBounds_toArray, List.set_cons_zero, List.set_cons_succ, i64_w, i32_w]
      rfl
    refine done_ (done_of HT_.out (by kernel_rfl)) ?_
    try go_wp2
    go_ret
    exact ⟨by first | rfl | (simp [errW_none, errW_some] <;> rfl) | (simp [*, errW_none, errW_some] <;> rfl), by repeat (first | (with_reducible first | exact HB.out | apply below_alloc | apply pw_below_drewN | apply below_drew1 | refine below_set ?_ GE519.out) | exact HB.out)⟩
end Go.Proofs.Ytnffoddeppimkaa.P
namespace Go.Proofs.Ytnffoddeppimkaa.P
open Go.RowKit Go.Proofs.YtnffoddeppimkaaW.PrintWords Go.Proofs.YtnffoddeppimkaaW.PrintLast Go.Proofs.YtnffoddeppimkaaW.PrintMore
attribute [local go_sem] max2_int min2_int max_two min_two max_three min_three max_four min_four
set_option linter.unusedVariables false
set_option linter.unusedSimpArgs false
def slices_Equal_int_int.l0 : Nat → List Int → List Int → Int → Int → Option (Bool)
  | 0, _, _, _, _ => none
  | k + 1, x0, x1, x12, x13 => if x13 < x12 then (if 0 ≤ x13 then (if x13 < (x0.length : Int) then (if x13 < (x1.length : Int) then (if (rd x0 x13) = (rd x1 x13) then (slices_Equal_int_int.l0 k x0 x1 x12 (wrap64 (x13 + 1))) else (some false)) else (none)) else (none)) else (none)) else (some true)
def slices_Equal_int_int.f (k : Nat) (l0 : List Int) (l1 : List Int) : Option (Bool) := if (l0.length : Int) = (l1.length : Int) then (slices_Equal_int_int.l0 k l0 l1 (l0.length : Int) 0) else (some false)
theorem slices_Equal_int_int.mono_l : ∀ k, (∀ y0 y1 y2 y3, LeO (slices_Equal_int_int.l0 k y0 y1 y2 y3) (slices_Equal_int_int.l0 (k + 1) y0 y1 y2 y3))
  | 0 => fun _ _ _ _ r h => by simp [slices_Equal_int_int.l0] at h
  | k + 1 => by
    have ih0 := slices_Equal_int_int.mono_l k
    · intro y0 y1 y2 y3
      unfold slices_Equal_int_int.l0
      repeat' first
      | (with_reducible exact ih0 _ _ _ _)
      | (with_reducible exact LeO.refl _)
      | (with_reducible exact LeO.none _)
      | (with_reducible refine LeO.ite ?_ ?_)
      | (with_reducible refine LeO.bind ?_ (fun _ => ?_))
      | exact ih0 _ _ _ _
      | exact LeO.none _
      | refine LeO.ite ?_ ?_
      | refine LeO.bind ?_ (fun _ => ?_)
theorem slices_Equal_int_int.mono : ∀ a0 a1 k, LeO (slices_Equal_int_int.f k a0 a1) (slices_Equal_int_int.f (k + 1) a0 a1) := by
  intro a0 a1 k
  have ih0 := slices_Equal_int_int.mono_l k
  unfold slices_Equal_int_int.f
  repeat' first
      | (with_reducible exact ih0 _ _ _ _)
      | (with_reducible exact LeO.refl _)
      | (with_reducible exact LeO.none _)
      | (with_reducible refine LeO.ite ?_ ?_)
      | (with_reducible refine LeO.bind ?_ (fun _ => ?_))
      | exact ih0 _ _ _ _
      | exact LeO.none _
      | refine LeO.ite ?_ ?_
      | refine LeO.bind ?_ (fun _ => ?_)
set_option maxHeartbeats 8000000 in
set_option maxRecDepth 100000 in
theorem slices_Equal_int_int.calls (k : Nat) (A0 : Option Addr) (c0 : Nat) (l0 : List Int) (A1 : Option Addr) (c1 : Nat) (l1 : List Int) (r : Bool) (w : World) (hr0 : Kd.C (Kd.int .i64) w A0 l0.length l0) (hc0 : l0.length ≤ c0) (hr1 : Kd.C (Kd.int .i64) w A1 l1.length l1) (hc1 : l1.length ≤ c1) (h : slices_Equal_int_int.f k l0 l1 = some r) :
    Calls Try.prog 82 #[.slice A0 l0.length c0, .slice A1 l1.length c1] w fun e w' => e = .returned (.bool r) ∧ Drawn0 w w' := by
  have HR0 := Aside0.mk hr0
  have HC0 := Aside0.mk hc0
  clear hr0 hc0
  have HR1 := Aside0.mk hr1
  have HC1 := Aside0.mk hc1
  clear hr1 hc1
  have H : (if (l0.length : Int) = (l1.length : Int) then (slices_Equal_int_int.l0 k l0 l1 (l0.length : Int) 0) else (some false)) = some r := h
  clear h
  by_cases c3 : (l0.length : Int) = (l1.length : Int)
  · rw [if_pos c3] at H
    have c3b0 : ((l0.length : Int) == (l1.length : Int)) = true := beq_iff_eq.mpr c3
    have c3b1 : ((l0.length : Int) != (l1.length : Int)) = false := bne_eq_false_iff_eq.mpr c3
    have c3b2 : (l0.length == l1.length) = true := by first | simpa using c3 | (simp at c3 ⊢; omega)
    clear c3
    have H' := Aside0.mk H
    clear H
    go_enter Try.func82, Try.ntmps82
    go_wp2
    repeat (go_quiet (fail); try go_wp2)
    go_loopg [13] k (fun kq v13 w' => ∃ (x13_1 : Int), v13 = .int .i64 x13_1 ∧ Aside0 (slices_Equal_int_int.l0 kq l0 l1 (l0.length : Int) x13_1 = some r) ∧ Aside0 (kq ≤ k) ∧ Drawn0 w w')
    case atStart => exact ⟨(0), (by first | rfl | (simp; done) | (simp [*]; done)), H', ⟨Nat.le_refl _⟩, by repeat (first | exact Drawn0.refl _ | apply Drawn0.step)⟩
    case round =>
      clear H'
      try clear c1
      try clear p2
      try clear c3
      try clear c3b0
      try clear c3b1
      try clear c3b2
      obtain ⟨x13_1, rfl, HA, HK1, ⟨m1, rfl⟩⟩ := hrel
      cases gk with
      | zero => exact absurd HA.out (by simp [slices_Equal_int_int.l0])
      | succ k1 =>
        have H := HA.out
        clear HA
        simp only [slices_Equal_int_int.l0] at H
        by_cases c4 : x13_1 < (l0.length : Int)
        · rw [if_pos c4] at H
          have c4b0 : decide (x13_1 < (l0.length : Int)) = true := decide_eq_true c4
          clear c4
          by_cases c5 : 0 ≤ x13_1
          · rw [if_pos c5] at H
            have c5b0 : decide (0 ≤ x13_1) = true := decide_eq_true c5
            clear c5
            by_cases c6 : x13_1 < (l0.length : Int)
            · rw [if_pos c6] at H
              have c6b0 : decide (x13_1 < (l0.length : Int)) = true := decide_eq_true c6
              clear c6
              by_cases c7 : x13_1 < (l1.length : Int)
              · rw [if_pos c7] at H
                have c7b0 : decide (x13_1 < (l1.length : Int)) = true := decide_eq_true c7
                clear c7
                by_cases c8 : (rd l0 x13_1) = (rd l1 x13_1)
                · rw [if_pos c8] at H
                  have c8b0 : ((rd l0 x13_1) == (rd l1 x13_1)) = true := beq_iff_eq.mpr c8
                  have c8b1 : ((rd l0 x13_1) != (rd l1 x13_1)) = false := bne_eq_false_iff_eq.mpr c8
                  clear c8
                  have H' := Aside0.mk H
                  clear H
                  have p524 : 0 ≤ (x13_1 : Int) := of_decide_eq_true (by first | (with_reducible assumption) | assumption)
                  have q524 : x13_1 < (l0.length : Int) := of_decide_eq_true (by first | (with_reducible assumption) | assumption)
                  obtain ⟨ad524, e524, hx524_0⟩ := Kd.at_int HR0.out x13_1 p524 q524
                  cases e524
                  replace p524 := eq_true p524
                  replace q524 := eq_true q524
                  have p525 : 0 ≤ (x13_1 : Int) := of_decide_eq_true (by first | (with_reducible assumption) | assumption)
                  have q525 : x13_1 < (l1.length : Int) := of_decide_eq_true (by first | (with_reducible assumption) | assumption)
                  obtain ⟨ad525, e525, hx525_0⟩ := Kd.at_int HR1.out x13_1 p525 q525
                  cases e525
                  replace p525 := eq_true p525
                  replace q525 := eq_true q525
                  go_wp2
                  repeat (go_quiet (fail); try go_wp2)
                  go_roundg k1
                  case measure => have := HK1.out; omega
                  case rel => exact ⟨(wrap64 (x13_1 + 1)), (by first | rfl | (simp; done) | (simp [*]; done)), H', ⟨by have := HK1.out; omega⟩, by repeat (first | exact Drawn0.refl _ | apply Drawn0.step)⟩
                · rw [if_neg c8] at H
                  have c8b0 : ((rd l0 x13_1) == (rd l1 x13_1)) = false := beq_eq_false_iff_ne.mpr c8
                  have c8b1 : ((rd l0 x13_1) != (rd l1 x13_1)) = true := bne_iff_ne.mpr c8
                  obtain rfl := Option.some.inj H
                  have p524 : 0 ≤ (x13_1 : Int) := of_decide_eq_true (by first | (with_reducible assumption) | assumption)
                  have q524 : x13_1 < (l0.length : Int) := of_decide_eq_true (by first | (with_reducible assumption) | assumption)
                  obtain ⟨ad524, e524, hx524_0⟩ := Kd.at_int HR0.out x13_1 p524 q524
                  cases e524
                  replace p524 := eq_true p524
                  replace q524 := eq_true q524
                  have p525 : 0 ≤ (x13_1 : Int) := of_decide_eq_true (by first | (with_reducible assumption) | assumption)
                  have q525 : x13_1 < (l1.length : Int) := of_decide_eq_true (by first | (with_reducible assumption) | assumption)
                  obtain ⟨ad525, e525, hx525_0⟩ := Kd.at_int HR1.out x13_1 p525 q525
                  cases e525
                  replace p525 := eq_true p525
                  replace q525 := eq_true q525
                  go_wp2
                  repeat (go_quiet (fail); try go_wp2)
                  go_ret
                  exact ⟨by first | rfl | (simp; done) | (simp [*]; done), by repeat (first | exact Drawn0.refl _ | apply Drawn0.step)⟩
              · rw [if_neg c7] at H
                exact absurd H (by simp)
            · rw [if_neg c6] at H
              exact absurd H (by simp)
          · rw [if_neg c5] at H
            exact absurd H (by simp)
        · rw [if_neg c4] at H
          have c4b0 : decide (x13_1 < (l0.length : Int)) = false := decide_eq_false c4
          clear c4
          obtain rfl := Option.some.inj H
          go_wp2
          repeat (go_quiet (fail); try go_wp2)
          go_ret
          exact ⟨by first | rfl | (simp; done) | (simp [*]; done), by repeat (first | exact Drawn0.refl _ | apply Drawn0.step)⟩
  · rw [if_neg c3] at H
    have c3b0 : ((l0.length : Int) == (l1.length : Int)) = false := beq_eq_false_iff_ne.mpr c3
    have c3b1 : ((l0.length : Int) != (l1.length : Int)) = true := bne_iff_ne.mpr c3
    have c3b2 : (l0.length == l1.length) = false := by first | simpa using c3 | (simp at c3 ⊢; omega)
    obtain rfl := Option.some.inj H
    go_enter Try.func82, Try.ntmps82
    go_wp2
    repeat (go_quiet (fail); try go_wp2)
    go_ret
    exact ⟨by first | rfl | (simp; done) | (simp [*]; done), by repeat (first | exact Drawn0.refl _ | apply Drawn0.step)⟩
theorem slices_Equal_int_int.loop (l m : List Int) (hl : l.length = m.length) (hn : l.length ≤ 35184372088832) : ∀ d i : Nat, i + d = l.length → ∀ K, d < K → slices_Equal_int_int.l0 K l m (l.length : Int) i = some (decide (l.drop i = m.drop i)) := by
  intro d
  induction d with
  | zero =>
    intro i hi K hK
    obtain ⟨K, rfl⟩ := pos_succ hK
    unfold slices_Equal_int_int.l0
    rw [if_neg (by omega), List.drop_eq_nil_of_le (by omega), List.drop_eq_nil_of_le (by omega)]; simp
  | succ d ih =>
    intro i hi K hK
    obtain ⟨K, rfl⟩ := pos_succ hK
    unfold slices_Equal_int_int.l0
    rw [if_pos (by omega), if_pos (by omega), if_pos (by omega), if_pos (by omega), rd_nat l i (by omega), rd_nat m i (by omega), drop_at l i (by omega), drop_at m i (by omega)]
    by_cases h : l[i] = m[i]
    · rw [if_pos h, wrap_succ i l.length (by omega) hn, ih (i + 1) (by omega) K (by omega)]; generalize l.drop (i + 1) = r; generalize m.drop (i + 1) = s; simp [h]
    · rw [if_neg h]; generalize l.drop (i + 1) = r; generalize m.drop (i + 1) = s; simp [h]
def slices_Equal_int_int_c.f (l0 : List Int) (l1 : List Int) : Option (Bool) := if l0.length ≤ 35184372088832 then some (decide (l0 = l1)) else none
theorem slices_Equal_int_int_c.ev (l0 : List Int) (l1 : List Int) (r : Bool) (h : slices_Equal_int_int_c.f l0 l1 = some r) : ∃ k, slices_Equal_int_int.f k l0 l1 = some r := by
  unfold slices_Equal_int_int_c.f at h
  split at h
  · rename_i hn
    refine ⟨l0.length + 1, ?_⟩
    unfold slices_Equal_int_int.f
    by_cases hl : l0.length = l1.length
    · rw [if_pos (by omega)]
      have := slices_Equal_int_int.loop l0 l1 hl hn l0.length 0 (by omega) (l0.length + 1) (by omega)
      rw [List.drop_zero, List.drop_zero] at this
      exact this.trans h
    · rw [if_neg (by omega), ← h]
      have : l0 ≠ l1 := fun e => hl (by rw [e])
      simp [this]
  · cases h
theorem slices_Equal_int_int_c.calls (A0 : Option Addr) (c0 : Nat) (l0 : List Int) (A1 : Option Addr) (c1 : Nat) (l1 : List Int) (r : Bool) (w : World) (hr0 : Kd.C (Kd.int .i64) w A0 l0.length l0) (hc0 : l0.length ≤ c0) (hr1 : Kd.C (Kd.int .i64) w A1 l1.length l1) (hc1 : l1.length ≤ c1) (h : slices_Equal_int_int_c.f l0 l1 = some r) :
    Calls Try.prog 82 #[.slice A0 l0.length c0, .slice A1 l1.length c1] w fun e w' => e = .returned (.bool r) ∧ Drawn0 w w' := by
  obtain ⟨k, hk⟩ := slices_Equal_int_int_c.ev _ _ _ h
  apply slices_Equal_int_int.calls (k := k) (h := hk) <;> assumption
end Go.Proofs.Ytnffoddeppimkaa.P
namespace Go.Proofs.Ytnffoddeppimkaa.P
open Go.RowKit Go.Proofs.YtnffoddeppimkaaW.PrintWords Go.Proofs.YtnffoddeppimkaaW.PrintLast Go.Proofs.YtnffoddeppimkaaW.PrintMore
attribute [local go_sem] max2_int min2_int max_two min_two max_three min_three max_four min_four
set_option linter.unusedVariables false
set_option linter.unusedSimpArgs false
def impl_BatchOk.f (a0_0 : Int) (a0_1 : Int) (l0_2 : List Int) (l0_3 : List Int) (a0_4 : Int) (a0_5 : Int) (l0_6 : List Int) (l0_7 : List Int) (a0_8 : Int) : Option (Bool) := (impl_ColOk.f a0_0 a0_1 l0_2 l0_3).bind fun t527 => (if t527 = true then ((impl_ColOk.f a0_4 a0_5 l0_6 l0_7).bind fun t528 => (if t528 = true then (if a0_0 = 1 then (if a0_4 = 2 then (if a0_1 = a0_5 then ((slices_Equal_int_int_c.f l0_3 l0_7).bind fun t529 => (if t529 = true then ((impl_needOk.f a0_8).bind fun t530 => (some t530)) else (some false))) else (some false)) else (some false)) else (some false)) else (some false))) else (some false))
set_option maxHeartbeats 8000000 in
set_option maxRecDepth 100000 in
theorem impl_BatchOk.calls (a0_0 : Int) (a0_1 : Int) (A0_2 : Option Addr) (c0_2 : Nat) (l0_2 : List Int) (A0_3 : Option Addr) (c0_3 : Nat) (l0_3 : List Int) (a0_4 : Int) (a0_5 : Int) (A0_6 : Option Addr) (c0_6 : Nat) (l0_6 : List Int) (A0_7 : Option Addr) (c0_7 : Nat) (l0_7 : List Int) (a0_8 : Int) (r : Bool) (w : World) (hr0_2 : Kd.C (Kd.int .i64) w A0_2 l0_2.length l0_2) (hc0_2 : l0_2.length ≤ c0_2) (hr0_3 : Kd.C (Kd.int .i64) w A0_3 l0_3.length l0_3) (hc0_3 : l0_3.length ≤ c0_3) (hr0_6 : Kd.C (Kd.int .i64) w A0_6 l0_6.length l0_6) (hc0_6 : l0_6.length ≤ c0_6) (hr0_7 : Kd.C (Kd.int .i64) w A0_7 l0_7.length l0_7) (hc0_7 : l0_7.length ≤ c0_7) (h : impl_BatchOk.f a0_0 a0_1 l0_2 l0_3 a0_4 a0_5 l0_6 l0_7 a0_8 = some r) :
    Calls Try.prog 71 #[.agg #[.int .i64 a0_0, .int .i64 a0_1, .slice A0_2 l0_2.length c0_2, .slice A0_3 l0_3.length c0_3, .int .i64 a0_4, .int .i64 a0_5, .slice A0_6 l0_6.length c0_6, .slice A0_7 l0_7.length c0_7, .int .i64 a0_8]] w fun e w' => e = .returned (.bool r) ∧ Below w.heap.size w w' := by
  have hu29 := Try.underlying29
  have hu27 := Try.underlying27
  have HR0_2 := Aside0.mk hr0_2
  have HC0_2 := Aside0.mk hc0_2
  clear hr0_2 hc0_2
  have HR0_3 := Aside0.mk hr0_3
  have HC0_3 := Aside0.mk hc0_3
  clear hr0_3 hc0_3
  have HR0_6 := Aside0.mk hr0_6
  have HC0_6 := Aside0.mk hc0_6
  clear hr0_6 hc0_6
  have HR0_7 := Aside0.mk hr0_7
  have HC0_7 := Aside0.mk hc0_7
  clear hr0_7 hc0_7
  have HB := Aside0.mk (Below.refl w.heap.size w)
  have H : ((impl_ColOk.f a0_0 a0_1 l0_2 l0_3).bind fun t527 => (if t527 = true then ((impl_ColOk.f a0_4 a0_5 l0_6 l0_7).bind fun t528 => (if t528 = true then (if a0_0 = 1 then (if a0_4 = 2 then (if a0_1 = a0_5 then ((slices_Equal_int_int_c.f l0_3 l0_7).bind fun t529 => (if t529 = true then ((impl_needOk.f a0_8).bind fun t530 => (some t530)) else (some false))) else (some false)) else (some false)) else (some false)) else (some false))) else (some false))) = some r := h
  clear h
  replace H := Option.bind_eq_some_iff.mp H
  obtain ⟨t527, A20, H⟩ := H
  replace H : (if t527 = true then ((impl_ColOk.f a0_4 a0_5 l0_6 l0_7).bind fun t528 => (if t528 = true then (if a0_0 = 1 then (if a0_4 = 2 then (if a0_1 = a0_5 then ((slices_Equal_int_int_c.f l0_3 l0_7).bind fun t529 => (if t529 = true then ((impl_needOk.f a0_8).bind fun t530 => (some t530)) else (some false))) else (some false)) else (some false)) else (some false)) else (some false))) else (some false)) = some r := H
  have A2 := Aside0.mk A20
  clear A20
  by_cases c3 : t527 = true
  · subst c3
    have H1 : ((impl_ColOk.f a0_4 a0_5 l0_6 l0_7).bind fun t528 => (if t528 = true then (if a0_0 = 1 then (if a0_4 = 2 then (if a0_1 = a0_5 then ((slices_Equal_int_int_c.f l0_3 l0_7).bind fun t529 => (if t529 = true then ((impl_needOk.f a0_8).bind fun t530 => (some t530)) else (some false))) else (some false)) else (some false)) else (some false)) else (some false))) = some r := by rw [if_pos rfl] at H; exact H
    clear H
    have H := H1
    clear H1
    replace H := Option.bind_eq_some_iff.mp H
    obtain ⟨t528, A40, H⟩ := H
    replace H : (if t528 = true then (if a0_0 = 1 then (if a0_4 = 2 then (if a0_1 = a0_5 then ((slices_Equal_int_int_c.f l0_3 l0_7).bind fun t529 => (if t529 = true then ((impl_needOk.f a0_8).bind fun t530 => (some t530)) else (some false))) else (some false)) else (some false)) else (some false)) else (some false)) = some r := H
    have A4 := Aside0.mk A40
    clear A40
    by_cases c5 : t528 = true
    · subst c5
      have H1 : (if a0_0 = 1 then (if a0_4 = 2 then (if a0_1 = a0_5 then ((slices_Equal_int_int_c.f l0_3 l0_7).bind fun t529 => (if t529 = true then ((impl_needOk.f a0_8).bind fun t530 => (some t530)) else (some false))) else (some false)) else (some false)) else (some false)) = some r := by rw [if_pos rfl] at H; exact H
      clear H
      have H := H1
      clear H1
      by_cases c6 : a0_0 = 1
      · rw [if_pos c6] at H
        have c6b0 : (a0_0 == 1) = true := beq_iff_eq.mpr c6
        have c6b1 : (a0_0 != 1) = false := bne_eq_false_iff_eq.mpr c6
        clear c6
        by_cases c7 : a0_4 = 2
        · rw [if_pos c7] at H
          have c7b0 : (a0_4 == 2) = true := beq_iff_eq.mpr c7
          have c7b1 : (a0_4 != 2) = false := bne_eq_false_iff_eq.mpr c7
          clear c7
          by_cases c8 : a0_1 = a0_5
          · rw [if_pos c8] at H
            have c8b0 : (a0_1 == a0_5) = true := beq_iff_eq.mpr c8
            have c8b1 : (a0_1 != a0_5) = false := bne_eq_false_iff_eq.mpr c8
            clear c8
            replace H := Option.bind_eq_some_iff.mp H
            obtain ⟨t529, A90, H⟩ := H
            replace H : (if t529 = true then ((impl_needOk.f a0_8).bind fun t530 => (some t530)) else (some false)) = some r := H
            have A9 := Aside0.mk A90
            clear A90
            by_cases c10 : t529 = true
            · subst c10
              have H1 : ((impl_needOk.f a0_8).bind fun t530 => (some t530)) = some r := by rw [if_pos rfl] at H; exact H
              clear H
              have H := H1
              clear H1
              replace H := Option.bind_eq_some_iff.mp H
              obtain ⟨t530, A110, H⟩ := H
              replace H : (some t530) = some r := H
              have A11 := Aside0.mk A110
              clear A110
              obtain rfl := Option.some.inj H
              go_enter Try.func71, Try.ntmps71
              go_wp2_with (first | ((with_reducible refine gate_dst (N := 1) rfl ?_); refine box_event ?hg (N := 1) ?hd (cs := #[.int .i64 a0_0, .int .i64 a0_1, .slice A0_2 l0_2.length c0_2, .slice A0_3 l0_3.length c0_3, .int .i64 a0_4, .int .i64 a0_5, .slice A0_6 l0_6.length c0_6, .slice A0_7 l0_7.length c0_7, .int .i64 a0_8]) (t := 29) ?hr ?_; (case hd => rfl); (case hg => rfl); (case hr => first | (go_simp; done) | (go_simp; rfl)); intro gb526 hg w12 hbox hb; have n0_ := Aside0.mk (below_step (by repeat (first | (with_reducible first | exact HB.out | apply below_alloc | apply pw_below_drewN | apply below_drew1) | exact HB.out)) hb); have n1_ := Aside0.mk (hbox); have n2_ := Aside0.mk ((by rw [hg]; exact (below_size (by repeat (first | (with_reducible first | exact HB.out | apply below_alloc | apply pw_below_drewN | apply below_drew1) | exact HB.out))) : w.heap.size ≤ gb526)); have n3_ := Aside0.mk ((by rw [hg]; exact (below_size (by repeat (first | (with_reducible first | exact HB.out | apply below_alloc | apply pw_below_drewN | apply below_drew1) | exact HB.out))) : w.heap.size ≤ gb526)); clear HB; have HB := n0_; have BK526 := n1_; have GW526 := n2_; have GE526 := n3_; clear n0_ n1_ n2_ n3_; clear hb hbox hg; have hcz13_0 : w12.cell? ⟨gb526, 0, none⟩ = some (.int .i64 a0_0) := (blk_cell BK526.out 0).trans rfl; have hcz13_1 : w12.cell? ⟨gb526, 1, none⟩ = some (.int .i64 a0_1) := (blk_cell BK526.out 1).trans rfl; have hcz13_2 : w12.cell? ⟨gb526, 2, none⟩ = some (.slice A0_2 l0_2.length c0_2) := (blk_cell BK526.out 2).trans rfl; have hcz13_3 : w12.cell? ⟨gb526, 3, none⟩ = some (.slice A0_3 l0_3.length c0_3) := (blk_cell BK526.out 3).trans rfl; have hcz13_4 : w12.cell? ⟨gb526, 4, none⟩ = some (.int .i64 a0_4) := (blk_cell BK526.out 4).trans rfl; have hcz13_5 : w12.cell? ⟨gb526, 5, none⟩ = some (.int .i64 a0_5) := (blk_cell BK526.out 5).trans rfl; have hcz13_6 : w12.cell? ⟨gb526, 6, none⟩ = some (.slice A0_6 l0_6.length c0_6) := (blk_cell BK526.out 6).trans rfl; have hcz13_7 : w12.cell? ⟨gb526, 7, none⟩ = some (.slice A0_7 l0_7.length c0_7) := (blk_cell BK526.out 7).trans rfl; have hcz13_8 : w12.cell? ⟨gb526, 8, none⟩ = some (.int .i64 a0_8) := (blk_cell BK526.out 8).trans rfl; have hfz13_0 := blk_frozen BK526.out 0; have hfz13_1 := blk_frozen BK526.out 1; have hfz13_2 := blk_frozen BK526.out 2; have hfz13_3 := blk_frozen BK526.out 3; have hfz13_4 := blk_frozen BK526.out 4; have hfz13_5 := blk_frozen BK526.out 5; have hfz13_6 := blk_frozen BK526.out 6; have hfz13_7 := blk_frozen BK526.out 7; have hfz13_8 := blk_frozen BK526.out 8) | ((with_reducible refine gate_callee (f := 81) rfl ?_); refine goesL_ (some 5) rfl rfl Try.func81 (by kernel_rfl) rfl #[.agg #[.int .i64 a0_0, .int .i64 a0_1, .slice A0_2 l0_2.length c0_2, .slice A0_3 l0_3.length c0_3]] rfl (by (try simp only [List.map_toArray, List.map_cons, List.map_nil]); first | done | rfl | (simp only [List.length_drop, List.length_take]; rfl)) ?_; (with_reducible refine (impl_ColOk.calls a0_0 a0_1 _ _ l0_2 _ _ l0_3 true _ ?side1 ?side2 ?side3 ?side4 A2.out).mono ?_); (case side1 => repeat (first | exact (Kd.C_below HR0_2.out HB.out) | (with_reducible refine Kd.C_alloc ?_ _) | (with_reducible refine Kd.C_drewN ?_ _) | (with_reducible refine Kd.C_drew ?_))); (case side2 => exact HC0_2.out); (case side3 => repeat (first | exact (Kd.C_below HR0_3.out HB.out) | (with_reducible refine Kd.C_alloc ?_ _) | (with_reducible refine Kd.C_drewN ?_ _) | (with_reducible refine Kd.C_drew ?_))); (case side4 => exact HC0_3.out); rintro e w14 ⟨rfl, hb⟩; refine ⟨_, rfl, ?_⟩; have n0_ := Aside0.mk (blk_below (g := gb526) (o := .cells #[.int .i64 a0_0, .int .i64 a0_1, .slice A0_2 l0_2.length c0_2, .slice A0_3 l0_3.length c0_3, .int .i64 a0_4, .int .i64 a0_5, .slice A0_6 l0_6.length c0_6, .slice A0_7 l0_7.length c0_7, .int .i64 a0_8] 29 (0, 0)) (by (with_reducible repeat (first | refine blk_drewN ?_ _ | refine blk_drew ?_ | refine blk_alloc ?_ _)); exact BK526.out) hb); have n1_ := Aside0.mk (below_step (by repeat (first | (with_reducible first | exact HB.out | apply below_alloc | apply pw_below_drewN | apply below_drew1 | refine below_set ?_ GE526.out) | exact HB.out)) hb); clear BK526; clear HB; have BK526 := n0_; have HB := n1_; clear n0_ n1_; (try clear hb); (try clear hb2); (try clear hk); (try clear hi); have hcz15_0 : w14.cell? ⟨gb526, 0, none⟩ = some (.int .i64 a0_0) := (blk_cell BK526.out 0).trans rfl; have hcz15_1 : w14.cell? ⟨gb526, 1, none⟩ = some (.int .i64 a0_1) := (blk_cell BK526.out 1).trans rfl; have hcz15_2 : w14.cell? ⟨gb526, 2, none⟩ = some (.slice A0_2 l0_2.length c0_2) := (blk_cell BK526.out 2).trans rfl; have hcz15_3 : w14.cell? ⟨gb526, 3, none⟩ = some (.slice A0_3 l0_3.length c0_3) := (blk_cell BK526.out 3).trans rfl; have hcz15_4 : w14.cell? ⟨gb526, 4, none⟩ = some (.int .i64 a0_4) := (blk_cell BK526.out 4).trans rfl; have hcz15_5 : w14.cell? ⟨gb526, 5, none⟩ = some (.int .i64 a0_5) := (blk_cell BK526.out 5).trans rfl; have hcz15_6 : w14.cell? ⟨gb526, 6, none⟩ = some (.slice A0_6 l0_6.length c0_6) := (blk_cell BK526.out 6).trans rfl; have hcz15_7 : w14.cell? ⟨gb526, 7, none⟩ = some (.slice A0_7 l0_7.length c0_7) := (blk_cell BK526.out 7).trans rfl; have hcz15_8 : w14.cell? ⟨gb526, 8, none⟩ = some (.int .i64 a0_8) := (blk_cell BK526.out 8).trans rfl; have hfz15_0 := blk_frozen BK526.out 0; have hfz15_1 := blk_frozen BK526.out 1; have hfz15_2 := blk_frozen BK526.out 2; have hfz15_3 := blk_frozen BK526.out 3; have hfz15_4 := blk_frozen BK526.out 4; have hfz15_5 := blk_frozen BK526.out 5; have hfz15_6 := blk_frozen BK526.out 6; have hfz15_7 := blk_frozen BK526.out 7; have hfz15_8 := blk_frozen BK526.out 8) | (go_at_call 81; (with_reducible refine (impl_ColOk.calls a0_4 a0_5 _ _ l0_6 _ _ l0_7 true _ ?side1 ?side2 ?side3 ?side4 A4.out).mono ?_); (case side1 => repeat (first | exact (Kd.C_below HR0_6.out HB.out) | (with_reducible refine Kd.C_alloc ?_ _) | (with_reducible refine Kd.C_drewN ?_ _) | (with_reducible refine Kd.C_drew ?_))); (case side2 => exact HC0_6.out); (case side3 => repeat (first | exact (Kd.C_below HR0_7.out HB.out) | (with_reducible refine Kd.C_alloc ?_ _) | (with_reducible refine Kd.C_drewN ?_ _) | (with_reducible refine Kd.C_drew ?_))); (case side4 => exact HC0_7.out); rintro e w16 ⟨rfl, hb⟩; have n0_ := Aside0.mk (blk_below (g := gb526) (o := .cells #[.int .i64 a0_0, .int .i64 a0_1, .slice A0_2 l0_2.length c0_2, .slice A0_3 l0_3.length c0_3, .int .i64 a0_4, .int .i64 a0_5, .slice A0_6 l0_6.length c0_6, .slice A0_7 l0_7.length c0_7, .int .i64 a0_8] 29 (0, 0)) (by (with_reducible repeat (first | refine blk_drewN ?_ _ | refine blk_drew ?_ | refine blk_alloc ?_ _)); exact BK526.out) hb); have n1_ := Aside0.mk (below_step (by repeat (first | (with_reducible first | exact HB.out | apply below_alloc | apply pw_below_drewN | apply below_drew1 | refine below_set ?_ GE526.out) | exact HB.out)) hb); clear BK526; clear HB; have BK526 := n0_; have HB := n1_; clear n0_ n1_; (try clear hb); (try clear hb2); (try clear hk); (try clear hi); have hcz17_0 : w16.cell? ⟨gb526, 0, none⟩ = some (.int .i64 a0_0) := (blk_cell BK526.out 0).trans rfl; have hcz17_1 : w16.cell? ⟨gb526, 1, none⟩ = some (.int .i64 a0_1) := (blk_cell BK526.out 1).trans rfl; have hcz17_2 : w16.cell? ⟨gb526, 2, none⟩ = some (.slice A0_2 l0_2.length c0_2) := (blk_cell BK526.out 2).trans rfl; have hcz17_3 : w16.cell? ⟨gb526, 3, none⟩ = some (.slice A0_3 l0_3.length c0_3) := (blk_cell BK526.out 3).trans rfl; have hcz17_4 : w16.cell? ⟨gb526, 4, none⟩ = some (.int .i64 a0_4) := (blk_cell BK526.out 4).trans rfl; have hcz17_5 : w16.cell? ⟨gb526, 5, none⟩ = some (.int .i64 a0_5) := (blk_cell BK526.out 5).trans rfl; have hcz17_6 : w16.cell? ⟨gb526, 6, none⟩ = some (.slice A0_6 l0_6.length c0_6) := (blk_cell BK526.out 6).trans rfl; have hcz17_7 : w16.cell? ⟨gb526, 7, none⟩ = some (.slice A0_7 l0_7.length c0_7) := (blk_cell BK526.out 7).trans rfl; have hcz17_8 : w16.cell? ⟨gb526, 8, none⟩ = some (.int .i64 a0_8) := (blk_cell BK526.out 8).trans rfl; have hfz17_0 := blk_frozen BK526.out 0; have hfz17_1 := blk_frozen BK526.out 1; have hfz17_2 := blk_frozen BK526.out 2; have hfz17_3 := blk_frozen BK526.out 3; have hfz17_4 := blk_frozen BK526.out 4; have hfz17_5 := blk_frozen BK526.out 5; have hfz17_6 := blk_frozen BK526.out 6; have hfz17_7 := blk_frozen BK526.out 7; have hfz17_8 := blk_frozen BK526.out 8) | (go_at_call 82; (with_reducible refine (slices_Equal_int_int_c.calls _ _ l0_3 _ _ l0_7 true _ ?side1 ?side2 ?side3 ?side4 A9.out).mono ?_); (case side1 => repeat (first | exact (Kd.C_below HR0_3.out HB.out) | (with_reducible refine Kd.C_alloc ?_ _) | (with_reducible refine Kd.C_drewN ?_ _) | (with_reducible refine Kd.C_drew ?_))); (case side2 => exact HC0_3.out); (case side3 => repeat (first | exact (Kd.C_below HR0_7.out HB.out) | (with_reducible refine Kd.C_alloc ?_ _) | (with_reducible refine Kd.C_drewN ?_ _) | (with_reducible refine Kd.C_drew ?_))); (case side4 => exact HC0_7.out); rintro e w' ⟨rfl, ⟨nd, rfl⟩⟩) | (go_at_call 52; (with_reducible refine (impl_needOk.calls a0_8 t530 _ A11.out).mono ?_); rintro e w' ⟨rfl, ⟨nd, rfl⟩⟩))
              go_ret
              exact ⟨by first | rfl | (simp [errW_none, errW_some] <;> rfl) | (simp [*, errW_none, errW_some] <;> rfl), by repeat (first | (with_reducible first | exact HB.out | apply below_alloc | apply pw_below_drewN | apply below_drew1 | refine below_set ?_ GE526.out) | exact HB.out)⟩
            · replace c10 := Bool.eq_false_iff.mpr c10
              subst c10
              have H1 : (some false) = some r := by rw [if_neg (show ¬ (false = true) by decide)] at H; exact H
              clear H
              have H := H1
              clear H1
              obtain rfl := Option.some.inj H
              go_enter Try.func71, Try.ntmps71
              go_wp2_with (first | ((with_reducible refine gate_dst (N := 1) rfl ?_); refine box_event ?hg (N := 1) ?hd (cs := #[.int .i64 a0_0, .int .i64 a0_1, .slice A0_2 l0_2.length c0_2, .slice A0_3 l0_3.length c0_3, .int .i64 a0_4, .int .i64 a0_5, .slice A0_6 l0_6.length c0_6, .slice A0_7 l0_7.length c0_7, .int .i64 a0_8]) (t := 29) ?hr ?_; (case hd => rfl); (case hg => rfl); (case hr => first | (go_simp; done) | (go_simp; rfl)); intro gb526 hg w18 hbox hb; have n0_ := Aside0.mk (below_step (by repeat (first | (with_reducible first | exact HB.out | apply below_alloc | apply pw_below_drewN | apply below_drew1) | exact HB.out)) hb); have n1_ := Aside0.mk (hbox); have n2_ := Aside0.mk ((by rw [hg]; exact (below_size (by repeat (first | (with_reducible first | exact HB.out | apply below_alloc | apply pw_below_drewN | apply below_drew1) | exact HB.out))) : w.heap.size ≤ gb526)); have n3_ := Aside0.mk ((by rw [hg]; exact (below_size (by repeat (first | (with_reducible first | exact HB.out | apply below_alloc | apply pw_below_drewN | apply below_drew1) | exact HB.out))) : w.heap.size ≤ gb526)); clear HB; have HB := n0_; have BK526 := n1_; have GW526 := n2_; have GE526 := n3_; clear n0_ n1_ n2_ n3_; clear hb hbox hg; have hcz19_0 : w18.cell? ⟨gb526, 0, none⟩ = some (.int .i64 a0_0) := (blk_cell BK526.out 0).trans rfl; have hcz19_1 : w18.cell? ⟨gb526, 1, none⟩ = some (.int .i64 a0_1) := (blk_cell BK526.out 1).trans rfl; have hcz19_2 : w18.cell? ⟨gb526, 2, none⟩ = some (.slice A0_2 l0_2.length c0_2) := (blk_cell BK526.out 2).trans rfl; have hcz19_3 : w18.cell? ⟨gb526, 3, none⟩ = some (.slice A0_3 l0_3.length c0_3) := (blk_cell BK526.out 3).trans rfl; have hcz19_4 : w18.cell? ⟨gb526, 4, none⟩ = some (.int .i64 a0_4) := (blk_cell BK526.out 4).trans rfl; have hcz19_5 : w18.cell? ⟨gb526, 5, none⟩ = some (.int .i64 a0_5) := (blk_cell BK526.out 5).trans rfl; have hcz19_6 : w18.cell? ⟨gb526, 6, none⟩ = some (.slice A0_6 l0_6.length c0_6) := (blk_cell BK526.out 6).trans rfl; have hcz19_7 : w18.cell? ⟨gb526, 7, none⟩ = some (.slice A0_7 l0_7.length c0_7) := (blk_cell BK526.out 7).trans rfl; have hcz19_8 : w18.cell? ⟨gb526, 8, none⟩ = some (.int .i64 a0_8) := (blk_cell BK526.out 8).trans rfl; have hfz19_0 := blk_frozen BK526.out 0; have hfz19_1 := blk_frozen BK526.out 1; have hfz19_2 := blk_frozen BK526.out 2; have hfz19_3 := blk_frozen BK526.out 3; have hfz19_4 := blk_frozen BK526.out 4; have hfz19_5 := blk_frozen BK526.out 5; have hfz19_6 := blk_frozen BK526.out 6; have hfz19_7 := blk_frozen BK526.out 7; have hfz19_8 := blk_frozen BK526.out 8) | ((with_reducible refine gate_callee (f := 81) rfl ?_); refine goesL_ (some 5) rfl rfl Try.func81 (by kernel_rfl) rfl #[.agg #[.int .i64 a0_0, .int .i64 a0_1, .slice A0_2 l0_2.length c0_2, .slice A0_3 l0_3.length c0_3]] rfl (by (try simp only [List.map_toArray, List.map_cons, List.map_nil]); first | done | rfl | (simp only [List.length_drop, List.length_take]; rfl)) ?_; (with_reducible refine (impl_ColOk.calls a0_0 a0_1 _ _ l0_2 _ _ l0_3 true _ ?side1 ?side2 ?side3 ?side4 A2.out).mono ?_); (case side1 => repeat (first | exact (Kd.C_below HR0_2.out HB.out) | (with_reducible refine Kd.C_alloc ?_ _) | (with_reducible refine Kd.C_drewN ?_ _) | (with_reducible refine Kd.C_drew ?_))); (case side2 => exact HC0_2.out); (case side3 => repeat (first | exact (Kd.C_below HR0_3.out HB.out) | (with_reducible refine Kd.C_alloc ?_ _) | (with_reducible refine Kd.C_drewN ?_ _) | (with_reducible refine Kd.C_drew ?_))); (case side4 => exact HC0_3.out); rintro e w20 ⟨rfl, hb⟩; refine ⟨_, rfl, ?_⟩; have n0_ := Aside0.mk (blk_below (g := gb526) (o := .cells #[.int .i64 a0_0, .int .i64 a0_1, .slice A0_2 l0_2.length c0_2, .slice A0_3 l0_3.length c0_3, .int .i64 a0_4, .int .i64 a0_5, .slice A0_6 l0_6.length c0_6, .slice A0_7 l0_7.length c0_7, .int .i64 a0_8] 29 (0, 0)) (by (with_reducible repeat (first | refine blk_drewN ?_ _ | refine blk_drew ?_ | refine blk_alloc ?_ _)); exact BK526.out) hb); have n1_ := Aside0.mk (below_step (by repeat (first | (with_reducible first | exact HB.out | apply below_alloc | apply pw_below_drewN | apply below_drew1 | refine below_set ?_ GE526.out) | exact HB.out)) hb); clear BK526; clear HB; have BK526 := n0_; have HB := n1_; clear n0_ n1_; (try clear hb); (try clear hb2); (try clear hk); (try clear hi); have hcz21_0 : w20.cell? ⟨gb526, 0, none⟩ = some (.int .i64 a0_0) := (blk_cell BK526.out 0).trans rfl; have hcz21_1 : w20.cell? ⟨gb526, 1, none⟩ = some (.int .i64 a0_1) := (blk_cell BK526.out 1).trans rfl; have hcz21_2 : w20.cell? ⟨gb526, 2, none⟩ = some (.slice A0_2 l0_2.length c0_2) := (blk_cell BK526.out 2).trans rfl; have hcz21_3 : w20.cell? ⟨gb526, 3, none⟩ = some (.slice A0_3 l0_3.length c0_3) := (blk_cell BK526.out 3).trans rfl; have hcz21_4 : w20.cell? ⟨gb526, 4, none⟩ = some (.int .i64 a0_4) := (blk_cell BK526.out 4).trans rfl; have hcz21_5 : w20.cell? ⟨gb526, 5, none⟩ = some (.int .i64 a0_5) := (blk_cell BK526.out 5).trans rfl; have hcz21_6 : w20.cell? ⟨gb526, 6, none⟩ = some (.slice A0_6 l0_6.length c0_6) := (blk_cell BK526.out 6).trans rfl; have hcz21_7 : w20.cell? ⟨gb526, 7, none⟩ = some (.slice A0_7 l0_7.length c0_7) := (blk_cell BK526.out 7).trans rfl; have hcz21_8 : w20.cell? ⟨gb526, 8, none⟩ = some (.int .i64 a0_8) := (blk_cell BK526.out 8).trans rfl; have hfz21_0 := blk_frozen BK526.out 0; have hfz21_1 := blk_frozen BK526.out 1; have hfz21_2 := blk_frozen BK526.out 2; have hfz21_3 := blk_frozen BK526.out 3; have hfz21_4 := blk_frozen BK526.out 4; have hfz21_5 := blk_frozen BK526.out 5; have hfz21_6 := blk_frozen BK526.out 6; have hfz21_7 := blk_frozen BK526.out 7; have hfz21_8 := blk_frozen BK526.out 8) | (go_at_call 81; (with_reducible refine (impl_ColOk.calls a0_4 a0_5 _ _ l0_6 _ _ l0_7 true _ ?side1 ?side2 ?side3 ?side4 A4.out).mono ?_); (case side1 => repeat (first | exact (Kd.C_below HR0_6.out HB.out) | (with_reducible refine Kd.C_alloc ?_ _) | (with_reducible refine Kd.C_drewN ?_ _) | (with_reducible refine Kd.C_drew ?_))); (case side2 => exact HC0_6.out); (case side3 => repeat (first | exact (Kd.C_below HR0_7.out HB.out) | (with_reducible refine Kd.C_alloc ?_ _) | (with_reducible refine Kd.C_drewN ?_ _) | (with_reducible refine Kd.C_drew ?_))); (case side4 => exact HC0_7.out); rintro e w22 ⟨rfl, hb⟩; have n0_ := Aside0.mk (blk_below (g := gb526) (o := .cells #[.int .i64 a0_0, .int .i64 a0_1, .slice A0_2 l0_2.length c0_2, .slice A0_3 l0_3.length c0_3, .int .i64 a0_4, .int .i64 a0_5, .slice A0_6 l0_6.length c0_6, .slice A0_7 l0_7.length c0_7, .int .i64 a0_8] 29 (0, 0)) (by (with_reducible repeat (first | refine blk_drewN ?_ _ | refine blk_drew ?_ | refine blk_alloc ?_ _)); exact BK526.out) hb); have n1_ := Aside0.mk (below_step (by repeat (first | (with_reducible first | exact HB.out | apply below_alloc | apply pw_below_drewN | apply below_drew1 | refine below_set ?_ GE526.out) | exact HB.out)) hb); clear BK526; clear HB; have BK526 := n0_; have HB := n1_; clear n0_ n1_; (try clear hb); (try clear hb2); (try clear hk); (try clear hi); have hcz23_0 : w22.cell? ⟨gb526, 0, none⟩ = some (.int .i64 a0_0) := (blk_cell BK526.out 0).trans rfl; have hcz23_1 : w22.cell? ⟨gb526, 1, none⟩ = some (.int .i64 a0_1) := (blk_cell BK526.out 1).trans rfl; have hcz23_2 : w22.cell? ⟨gb526, 2, none⟩ = some (.slice A0_2 l0_2.length c0_2) := (blk_cell BK526.out 2).trans rfl; have hcz23_3 : w22.cell? ⟨gb526, 3, none⟩ = some (.slice A0_3 l0_3.length c0_3) := (blk_cell BK526.out 3).trans rfl; have hcz23_4 : w22.cell? ⟨gb526, 4, none⟩ = some (.int .i64 a0_4) := (blk_cell BK526.out 4).trans rfl; have hcz23_5 : w22.cell? ⟨gb526, 5, none⟩ = some (.int .i64 a0_5) := (blk_cell BK526.out 5).trans rfl; have hcz23_6 : w22.cell? ⟨gb526, 6, none⟩ = some (.slice A0_6 l0_6.length c0_6) := (blk_cell BK526.out 6).trans rfl; have hcz23_7 : w22.cell? ⟨gb526, 7, none⟩ = some (.slice A0_7 l0_7.length c0_7) := (blk_cell BK526.out 7).trans rfl; have hcz23_8 : w22.cell? ⟨gb526, 8, none⟩ = some (.int .i64 a0_8) := (blk_cell BK526.out 8).trans rfl; have hfz23_0 := blk_frozen BK526.out 0; have hfz23_1 := blk_frozen BK526.out 1; have hfz23_2 := blk_frozen BK526.out 2; have hfz23_3 := blk_frozen BK526.out 3; have hfz23_4 := blk_frozen BK526.out 4; have hfz23_5 := blk_frozen BK526.out 5; have hfz23_6 := blk_frozen BK526.out 6; have hfz23_7 := blk_frozen BK526.out 7; have hfz23_8 := blk_frozen BK526.out 8) | (go_at_call 82; (with_reducible refine (slices_Equal_int_int_c.calls _ _ l0_3 _ _ l0_7 false _ ?side1 ?side2 ?side3 ?side4 A9.out).mono ?_); (case side1 => repeat (first | exact (Kd.C_below HR0_3.out HB.out) | (with_reducible refine Kd.C_alloc ?_ _) | (with_reducible refine Kd.C_drewN ?_ _) | (with_reducible refine Kd.C_drew ?_))); (case side2 => exact HC0_3.out); (case side3 => repeat (first | exact (Kd.C_below HR0_7.out HB.out) | (with_reducible refine Kd.C_alloc ?_ _) | (with_reducible refine Kd.C_drewN ?_ _) | (with_reducible refine Kd.C_drew ?_))); (case side4 => exact HC0_7.out); rintro e w' ⟨rfl, ⟨nd, rfl⟩⟩))
              go_ret
              exact ⟨by first | rfl | (simp [errW_none, errW_some] <;> rfl) | (simp [*, errW_none, errW_some] <;> rfl), by repeat (first | (with_reducible first | exact HB.out | apply below_alloc | apply pw_below_drewN | apply below_drew1 | refine below_set ?_ GE526.out) | exact HB.out)⟩
          · rw [if_neg c8] at H
            have c8b0 : (a0_1 == a0_5) = false := beq_eq_false_iff_ne.mpr c8
            have c8b1 : (a0_1 != a0_5) = true := bne_iff_ne.mpr c8
            obtain rfl := Option.some.inj H
            go_enter Try.func71, Try.ntmps71
            go_wp2_with (first | ((with_reducible refine gate_dst (N := 1) rfl ?_); refine box_event ?hg (N := 1) ?hd (cs := #[.int .i64 a0_0, .int .i64 a0_1, .slice A0_2 l0_2.length c0_2, .slice A0_3 l0_3.length c0_3, .int .i64 a0_4, .int .i64 a0_5, .slice A0_6 l0_6.length c0_6, .slice A0_7 l0_7.length c0_7, .int .i64 a0_8]) (t := 29) ?hr ?_; (case hd => rfl); (case hg => rfl); (case hr => first | (go_simp; done) | (go_simp; rfl)); intro gb526 hg w24 hbox hb; have n0_ := Aside0.mk (below_step (by repeat (first | (with_reducible first | exact HB.out | apply below_alloc | apply pw_below_drewN | apply below_drew1) | exact HB.out)) hb); have n1_ := Aside0.mk (hbox); have n2_ := Aside0.mk ((by rw [hg]; exact (below_size (by repeat (first | (with_reducible first | exact HB.out | apply below_alloc | apply pw_below_drewN | apply below_drew1) | exact HB.out))) : w.heap.size ≤ gb526)); have n3_ := Aside0.mk ((by rw [hg]; exact (below_size (by repeat (first | (with_reducible first | exact HB.out | apply below_alloc | apply pw_below_drewN | apply below_drew1) | exact HB.out))) : w.heap.size ≤ gb526)); clear HB; have HB := n0_; have BK526 := n1_; have GW526 := n2_; have GE526 := n3_; clear n0_ n1_ n2_ n3_; clear hb hbox hg; have hcz25_0 : w24.cell? ⟨gb526, 0, none⟩ = some (.int .i64 a0_0) := (blk_cell BK526.out 0).trans rfl; have hcz25_1 : w24.cell? ⟨gb526, 1, none⟩ = some (.int .i64 a0_1) := (blk_cell BK526.out 1).trans rfl; have hcz25_2 : w24.cell? ⟨gb526, 2, none⟩ = some (.slice A0_2 l0_2.length c0_2) := (blk_cell BK526.out 2).trans rfl; have hcz25_3 : w24.cell? ⟨gb526, 3, none⟩ = some (.slice A0_3 l0_3.length c0_3) := (blk_cell BK526.out 3).trans rfl; have hcz25_4 : w24.cell? ⟨gb526, 4, none⟩ = some (.int .i64 a0_4) := (blk_cell BK526.out 4).trans rfl; have hcz25_5 : w24.cell? ⟨gb526, 5, none⟩ = some (.int .i64 a0_5) := (blk_cell BK526.out 5).trans rfl; have hcz25_6 : w24.cell? ⟨gb526, 6, none⟩ = some (.slice A0_6 l0_6.length c0_6) := (blk_cell BK526.out 6).trans rfl; have hcz25_7 : w24.cell? ⟨gb526, 7, none⟩ = some (.slice A0_7 l0_7.length c0_7) := (blk_cell BK526.out 7).trans rfl; have hcz25_8 : w24.cell? ⟨gb526, 8, none⟩ = some (.int .i64 a0_8) := (blk_cell BK526.out 8).trans rfl; have hfz25_0 := blk_frozen BK526.out 0; have hfz25_1 := blk_frozen BK526.out 1; have hfz25_2 := blk_frozen BK526.out 2; have hfz25_3 := blk_frozen BK526.out 3; have hfz25_4 := blk_frozen BK526.out 4; have hfz25_5 := blk_frozen BK526.out 5; have hfz25_6 := blk_frozen BK526.out 6; have hfz25_7 := blk_frozen BK526.out 7; have hfz25_8 := blk_frozen BK526.out 8) | ((with_reducible refine gate_callee (f := 81) rfl ?_); refine goesL_ (some 5) rfl rfl Try.func81 (by kernel_rfl) rfl #[.agg #[.int .i64 a0_0, .int .i64 a0_1, .slice A0_2 l0_2.length c0_2, .slice A0_3 l0_3.length c0_3]] rfl (by (try simp only [List.map_toArray, List.map_cons, List.map_nil]); first | done | rfl | (simp only [List.length_drop, List.length_take]; rfl)) ?_; (with_reducible refine (impl_ColOk.calls a0_0 a0_1 _ _ l0_2 _ _ l0_3 true _ ?side1 ?side2 ?side3 ?side4 A2.out).mono ?_); (case side1 => repeat (first | exact (Kd.C_below HR0_2.out HB.out) | (with_reducible refine Kd.C_alloc ?_ _) | (with_reducible refine Kd.C_drewN ?_ _) | (with_reducible refine Kd.C_drew ?_))); (case side2 => exact HC0_2.out); (case side3 => repeat (first | exact (Kd.C_below HR0_3.out HB.out) | (with_reducible refine Kd.C_alloc ?_ _) | (with_reducible refine Kd.C_drewN ?_ _) | (with_reducible refine Kd.C_drew ?_))); (case side4 => exact HC0_3.out); rintro e w26 ⟨rfl, hb⟩; refine ⟨_, rfl, ?_⟩; have n0_ := Aside0.mk (blk_below (g := gb526) (o := .cells #[.int .i64 a0_0, .int .i64 a0_1, .slice A0_2 l0_2.length c0_2, .slice A0_3 l0_3.length c0_3, .int .i64 a0_4, .int .i64 a0_5, .slice A0_6 l0_6.length c0_6, .slice A0_7 l0_7.length c0_7, .int .i64 a0_8] 29 (0, 0)) (by (with_reducible repeat (first | refine blk_drewN ?_ _ | refine blk_drew ?_ | refine blk_alloc ?_ _)); exact BK526.out) hb); have n1_ := Aside0.mk (below_step (by repeat (first | (with_reducible first | exact HB.out | apply below_alloc | apply pw_below_drewN | apply below_drew1 | refine below_set ?_ GE526.out) | exact HB.out)) hb); clear BK526; clear HB; have BK526 := n0_; have HB := n1_; clear n0_ n1_; (try clear hb); (try clear hb2); (try clear hk); (try clear hi); have hcz27_0 : w26.cell? ⟨gb526, 0, none⟩ = some (.int .i64 a0_0) := (blk_cell BK526.out 0).trans rfl; have hcz27_1 : w26.cell? ⟨gb526, 1, none⟩ = some (.int .i64 a0_1) := (blk_cell BK526.out 1).trans rfl; have hcz27_2 : w26.cell? ⟨gb526, 2, none⟩ = some (.slice A0_2 l0_2.length c0_2) := (blk_cell BK526.out 2).trans rfl; have hcz27_3 : w26.cell? ⟨gb526, 3, none⟩ = some (.slice A0_3 l0_3.length c0_3) := (blk_cell BK526.out 3).trans rfl; have hcz27_4 : w26.cell? ⟨gb526, 4, none⟩ = some (.int .i64 a0_4) := (blk_cell BK526.out 4).trans rfl; have hcz27_5 : w26.cell? ⟨gb526, 5, none⟩ = some (.int .i64 a0_5) := (blk_cell BK526.out 5).trans rfl; have hcz27_6 : w26.cell? ⟨gb526, 6, none⟩ = some (.slice A0_6 l0_6.length c0_6) := (blk_cell BK526.out 6).trans rfl; have hcz27_7 : w26.cell? ⟨gb526, 7, none⟩ = some (.slice A0_7 l0_7.length c0_7) := (blk_cell BK526.out 7).trans rfl; have hcz27_8 : w26.cell? ⟨gb526, 8, none⟩ = some (.int .i64 a0_8) := (blk_cell BK526.out 8).trans rfl; have hfz27_0 := blk_frozen BK526.out 0; have hfz27_1 := blk_frozen BK526.out 1; have hfz27_2 := blk_frozen BK526.out 2; have hfz27_3 := blk_frozen BK526.out 3; have hfz27_4 := blk_frozen BK526.out 4; have hfz27_5 := blk_frozen BK526.out 5; have hfz27_6 := blk_frozen BK526.out 6; have hfz27_7 := blk_frozen BK526.out 7; have hfz27_8 := blk_frozen BK526.out 8) | (go_at_call 81; (with_reducible refine (impl_ColOk.calls a0_4 a0_5 _ _ l0_6 _ _ l0_7 true _ ?side1 ?side2 ?side3 ?side4 A4.out).mono ?_); (case side1 => repeat (first | exact (Kd.C_below HR0_6.out HB.out) | (with_reducible refine Kd.C_alloc ?_ _) | (with_reducible refine Kd.C_drewN ?_ _) | (with_reducible refine Kd.C_drew ?_))); (case side2 => exact HC0_6.out); (case side3 => repeat (first | exact (Kd.C_below HR0_7.out HB.out) | (with_reducible refine Kd.C_alloc ?_ _) | (with_reducible refine Kd.C_drewN ?_ _) | (with_reducible refine Kd.C_drew ?_))); (case side4 => exact HC0_7.out); rintro e w28 ⟨rfl, hb⟩; have n0_ := Aside0.mk (blk_below (g := gb526) (o := .cells #[.int .i64 a0_0, .int .i64 a0_1, .slice A0_2 l0_2.length c0_2, .slice A0_3 l0_3.length c0_3, .int .i64 a0_4, .int .i64 a0_5, .slice A0_6 l0_6.length c0_6, .slice A0_7 l0_7.length c0_7, .int .i64 a0_8] 29 (0, 0)) (by (with_reducible repeat (first | refine blk_drewN ?_ _ | refine blk_drew ?_ | refine blk_alloc ?_ _)); exact BK526.out) hb); have n1_ := Aside0.mk (below_step (by repeat (first | (with_reducible first | exact HB.out | apply below_alloc | apply pw_below_drewN | apply below_drew1 | refine below_set ?_ GE526.out) | exact HB.out)) hb); clear BK526; clear HB; have BK526 := n0_; have HB := n1_; clear n0_ n1_; (try clear hb); (try clear hb2); (try clear hk); (try clear hi); have hcz29_0 : w28.cell? ⟨gb526, 0, none⟩ = some (.int .i64 a0_0) := (blk_cell BK526.out 0).trans rfl; have hcz29_1 : w28.cell? ⟨gb526, 1, none⟩ = some (.int .i64 a0_1) := (blk_cell BK526.out 1).trans rfl; have hcz29_2 : w28.cell? ⟨gb526, 2, none⟩ = some (.slice A0_2 l0_2.length c0_2) := (blk_cell BK526.out 2).trans rfl; have hcz29_3 : w28.cell? ⟨gb526, 3, none⟩ = some (.slice A0_3 l0_3.length c0_3) := (blk_cell BK526.out 3).trans rfl; have hcz29_4 : w28.cell? ⟨gb526, 4, none⟩ = some (.int .i64 a0_4) := (blk_cell BK526.out 4).trans rfl; have hcz29_5 : w28.cell? ⟨gb526, 5, none⟩ = some (.int .i64 a0_5) := (blk_cell BK526.out 5).trans rfl; have hcz29_6 : w28.cell? ⟨gb526, 6, none⟩ = some (.slice A0_6 l0_6.length c0_6) := (blk_cell BK526.out 6).trans rfl; have hcz29_7 : w28.cell? ⟨gb526, 7, none⟩ = some (.slice A0_7 l0_7.length c0_7) := (blk_cell BK526.out 7).trans rfl; have hcz29_8 : w28.cell? ⟨gb526, 8, none⟩ = some (.int .i64 a0_8) := (blk_cell BK526.out 8).trans rfl; have hfz29_0 := blk_frozen BK526.out 0; have hfz29_1 := blk_frozen BK526.out 1; have hfz29_2 := blk_frozen BK526.out 2; have hfz29_3 := blk_frozen BK526.out 3; have hfz29_4 := blk_frozen BK526.out 4; have hfz29_5 := blk_frozen BK526.out 5; have hfz29_6 := blk_frozen BK526.out 6; have hfz29_7 := blk_frozen BK526.out 7; have hfz29_8 := blk_frozen BK526.out 8))
            go_ret
            exact ⟨by first | rfl | (simp [errW_none, errW_some] <;> rfl) | (simp [*, errW_none, errW_some] <;> rfl), by repeat (first | (with_reducible first | exact HB.out | apply below_alloc | apply pw_below_drewN | apply below_drew1 | refine below_set ?_ GE526.out) | exact HB.out)⟩
        · rw [if_neg c7] at H
          have c7b0 : (a0_4 == 2) = false := beq_eq_false_iff_ne.mpr c7
          have c7b1 : (a0_4 != 2) = true := bne_iff_ne.mpr c7
          obtain rfl := Option.some.inj H
          go_enter Try.func71, Try.ntmps71
          go_wp2_with (first | ((with_reducible refine gate_dst (N := 1) rfl ?_); refine box_event ?hg (N := 1) ?hd (cs := #[.int .i64 a0_0, .int .i64 a0_1, .slice A0_2 l0_2.length c0_2, .slice A0_3 l0_3.length c0_3, .int .i64 a0_4, .int .i64 a0_5, .slice A0_6 l0_6.length c0_6, .slice A0_7 l0_7.length c0_7, .int .i64 a0_8]) (t := 29) ?hr ?_; (case hd => rfl); (case hg => rfl); (case hr => first | (go_simp; done) | (go_simp; rfl)); intro gb526 hg w30 hbox hb; have n0_ := Aside0.mk (below_step (by repeat (first | (with_reducible first | exact HB.out | apply below_alloc | apply pw_below_drewN | apply below_drew1) | exact HB.out)) hb); have n1_ := Aside0.mk (hbox); have n2_ := Aside0.mk ((by rw [hg]; exact (below_size (by repeat (first | (with_reducible first | exact HB.out | apply below_alloc | apply pw_below_drewN | apply below_drew1) | exact HB.out))) : w.heap.size ≤ gb526)); have n3_ := Aside0.mk ((by rw [hg]; exact (below_size (by repeat (first | (with_reducible first | exact HB.out | apply below_alloc | apply pw_below_drewN | apply below_drew1) | exact HB.out))) : w.heap.size ≤ gb526)); clear HB; have HB := n0_; have BK526 := n1_; have GW526 := n2_; have GE526 := n3_; clear n0_ n1_ n2_ n3_; clear hb hbox hg; have hcz31_0 : w30.cell? ⟨gb526, 0, none⟩ = some (.int .i64 a0_0) := (blk_cell BK526.out 0).trans rfl; have hcz31_1 : w30.cell? ⟨gb526, 1, none⟩ = some (.int .i64 a0_1) := (blk_cell BK526.out 1).trans rfl; have hcz31_2 : w30.cell? ⟨gb526, 2, none⟩ = some (.slice A0_2 l0_2.length c0_2) := (blk_cell BK526.out 2).trans rfl; have hcz31_3 : w30.cell? ⟨gb526, 3, none⟩ = some (.slice A0_3 l0_3.length c0_3) := (blk_cell BK526.out 3).trans rfl; have hcz31_4 : w30.cell? ⟨gb526, 4, none⟩ = some (.int .i64 a0_4) := (blk_cell BK526.out 4).trans rfl; have hcz31_5 : w30.cell? ⟨gb526, 5, none⟩ = some (.int .i64 a0_5) := (blk_cell BK526.out 5).trans rfl; have hcz31_6 : w30.cell? ⟨gb526, 6, none⟩ = some (.slice A0_6 l0_6.length c0_6) := (blk_cell BK526.out 6).trans rfl; have hcz31_7 : w30.cell? ⟨gb526, 7, none⟩ = some (.slice A0_7 l0_7.length c0_7) := (blk_cell BK526.out 7).trans rfl; have hcz31_8 : w30.cell? ⟨gb526, 8, none⟩ = some (.int .i64 a0_8) := (blk_cell BK526.out 8).trans rfl; have hfz31_0 := blk_frozen BK526.out 0; have hfz31_1 := blk_frozen BK526.out 1; have hfz31_2 := blk_frozen BK526.out 2; have hfz31_3 := blk_frozen BK526.out 3; have hfz31_4 := blk_frozen BK526.out 4; have hfz31_5 := blk_frozen BK526.out 5; have hfz31_6 := blk_frozen BK526.out 6; have hfz31_7 := blk_frozen BK526.out 7; have hfz31_8 := blk_frozen BK526.out 8) | ((with_reducible refine gate_callee (f := 81) rfl ?_); refine goesL_ (some 5) rfl rfl Try.func81 (by kernel_rfl) rfl #[.agg #[.int .i64 a0_0, .int .i64 a0_1, .slice A0_2 l0_2.length c0_2, .slice A0_3 l0_3.length c0_3]] rfl (by (try simp only [List.map_toArray, List.map_cons, List.map_nil]); first | done | rfl | (simp only [List.length_drop, List.length_take]; rfl)) ?_; (with_reducible refine (impl_ColOk.calls a0_0 a0_1 _ _ l0_2 _ _ l0_3 true _ ?side1 ?side2 ?side3 ?side4 A2.out).mono ?_); (case side1 => repeat (first | exact (Kd.C_below HR0_2.out HB.out) | (with_reducible refine Kd.C_alloc ?_ _) | (with_reducible refine Kd.C_drewN ?_ _) | (with_reducible refine Kd.C_drew ?_))); (case side2 => exact HC0_2.out); (case side3 => repeat (first | exact (Kd.C_below HR0_3.out HB.out) | (with_reducible refine Kd.C_alloc ?_ _) | (with_reducible refine Kd.C_drewN ?_ _) | (with_reducible refine Kd.C_drew ?_))); (case side4 => exact HC0_3.out); rintro e w32 ⟨rfl, hb⟩; refine ⟨_, rfl, ?_⟩; have n0_ := Aside0.mk (blk_below (g := gb526) (o := .cells #[.int .i64 a0_0, .int .i64 a0_1, .slice A0_2 l0_2.length c0_2, .slice A0_3 l0_3.length c0_3, .int .i64 a0_4, .int .i64 a0_5, .slice A0_6 l0_6.length c0_6, .slice A0_7 l0_7.length c0_7, .int .i64 a0_8] 29 (0, 0)) (by (with_reducible repeat (first | refine blk_drewN ?_ _ | refine blk_drew ?_ | refine blk_alloc ?_ _)); exact BK526.out) hb); have n1_ := Aside0.mk (below_step (by repeat (first | (with_reducible first | exact HB.out | apply below_alloc | apply pw_below_drewN | apply below_drew1 | refine below_set ?_ GE526.out) | exact HB.out)) hb); clear BK526; clear HB; have BK526 := n0_; have HB := n1_; clear n0_ n1_; (try clear hb); (try clear hb2); (try clear hk); (try clear hi); have hcz33_0 : w32.cell? ⟨gb526, 0, none⟩ = some (.int .i64 a0_0) := (blk_cell BK526.out 0).trans rfl; have hcz33_1 : w32.cell? ⟨gb526, 1, none⟩ = some (.int .i64 a0_1) := (blk_cell BK526.out 1).trans rfl; have hcz33_2 : w32.cell? ⟨gb526, 2, none⟩ = some (.slice A0_2 l0_2.length c0_2) := (blk_cell BK526.out 2).trans rfl; have hcz33_3 : w32.cell? ⟨gb526, 3, none⟩ = some (.slice A0_3 l0_3.length c0_3) := (blk_cell BK526.out 3).trans rfl; have hcz33_4 : w32.cell? ⟨gb526, 4, none⟩ = some (.int .i64 a0_4) := (blk_cell BK526.out 4).trans rfl; have hcz33_5 : w32.cell? ⟨gb526, 5, none⟩ = some (.int .i64 a0_5) := (blk_cell BK526.out 5).trans rfl; have hcz33_6 : w32.cell? ⟨gb526, 6, none⟩ = some (.slice A0_6 l0_6.length c0_6) := (blk_cell BK526.out 6).trans rfl; have hcz33_7 : w32.cell? ⟨gb526, 7, none⟩ = some (.slice A0_7 l0_7.length c0_7) := (blk_cell BK526.out 7).trans rfl; have hcz33_8 : w32.cell? ⟨gb526, 8, none⟩ = some (.int .i64 a0_8) := (blk_cell BK526.out 8).trans rfl; have hfz33_0 := blk_frozen BK526.out 0; have hfz33_1 := blk_frozen BK526.out 1; have hfz33_2 := blk_frozen BK526.out 2; have hfz33_3 := blk_frozen BK526.out 3; have hfz33_4 := blk_frozen BK526.out 4; have hfz33_5 := blk_frozen BK526.out 5; have hfz33_6 := blk_frozen BK526.out 6; have hfz33_7 := blk_frozen BK526.out 7; have hfz33_8 := blk_frozen BK526.out 8) | (go_at_call 81; (with_reducible refine (impl_ColOk.calls a0_4 a0_5 _ _ l0_6 _ _ l0_7 true _ ?side1 ?side2 ?side3 ?side4 A4.out).mono ?_); (case side1 => repeat (first | exact (Kd.C_below HR0_6.out HB.out) | (with_reducible refine Kd.C_alloc ?_ _) | (with_reducible refine Kd.C_drewN ?_ _) | (with_reducible refine Kd.C_drew ?_))); (case side2 => exact HC0_6.out); (case side3 => repeat (first | exact (Kd.C_below HR0_7.out HB.out) | (with_reducible refine Kd.C_alloc ?_ _) | (with_reducible refine Kd.C_drewN ?_ _) | (with_reducible refine Kd.C_drew ?_))); (case side4 => exact HC0_7.out); rintro e w34 ⟨rfl, hb⟩; have n0_ := Aside0.mk (blk_below (g := gb526) (o := .cells #[.int .i64 a0_0, .int .i64 a0_1, .slice A0_2 l0_2.length c0_2, .slice A0_3 l0_3.length c0_3, .int .i64 a0_4, .int .i64 a0_5, .slice A0_6 l0_6.length c0_6, .slice A0_7 l0_7.length c0_7, .int .i64 a0_8] 29 (0, 0)) (by (with_reducible repeat (first | refine blk_drewN ?_ _ | refine blk_drew ?_ | refine blk_alloc ?_ _)); exact BK526.out) hb); have n1_ := Aside0.mk (below_step (by repeat (first | (with_reducible first | exact HB.out | apply below_alloc | apply pw_below_drewN | apply below_drew1 | refine below_set ?_ GE526.out) | exact HB.out)) hb); clear BK526; clear HB; have BK526 := n0_; have HB := n1_; clear n0_ n1_; (try clear hb); (try clear hb2); (try clear hk); (try clear hi); have hcz35_0 : w34.cell? ⟨gb526, 0, none⟩ = some (.int .i64 a0_0) := (blk_cell BK526.out 0).trans rfl; have hcz35_1 : w34.cell? ⟨gb526, 1, none⟩ = some (.int .i64 a0_1) := (blk_cell BK526.out 1).trans rfl; have hcz35_2 : w34.cell? ⟨gb526, 2, none⟩ = some (.slice A0_2 l0_2.length c0_2) := (blk_cell BK526.out 2).trans rfl; have hcz35_3 : w34.cell? ⟨gb526, 3, none⟩ = some (.slice A0_3 l0_3.length c0_3) := (blk_cell BK526.out 3).trans rfl; have hcz35_4 : w34.cell? ⟨gb526, 4, none⟩ = some (.int .i64 a0_4) := (blk_cell BK526.out 4).trans rfl; have hcz35_5 : w34.cell? ⟨gb526, 5, none⟩ = some (.int .i64 a0_5) := (blk_cell BK526.out 5).trans rfl; have hcz35_6 : w34.cell? ⟨gb526, 6, none⟩ = some (.slice A0_6 l0_6.length c0_6) := (blk_cell BK526.out 6).trans rfl; have hcz35_7 : w34.cell? ⟨gb526, 7, none⟩ = some (.slice A0_7 l0_7.length c0_7) := (blk_cell BK526.out 7).trans rfl; have hcz35_8 : w34.cell? ⟨gb526, 8, none⟩ = some (.int .i64 a0_8) := (blk_cell BK526.out 8).trans rfl; have hfz35_0 := blk_frozen BK526.out 0; have hfz35_1 := blk_frozen BK526.out 1; have hfz35_2 := blk_frozen BK526.out 2; have hfz35_3 := blk_frozen BK526.out 3; have hfz35_4 := blk_frozen BK526.out 4; have hfz35_5 := blk_frozen BK526.out 5; have hfz35_6 := blk_frozen BK526.out 6; have hfz35_7 := blk_frozen BK526.out 7; have hfz35_8 := blk_frozen BK526.out 8))
          go_ret
          exact ⟨by first | rfl | (simp [errW_none, errW_some] <;> rfl) | (simp [*, errW_none, errW_some] <;> rfl), by repeat (first | (with_reducible first | exact HB.out | apply below_alloc | apply pw_below_drewN | apply below_drew1 | refine below_set ?_ GE526.out) | exact HB.out)⟩
      · rw [if_neg c6] at H
        have c6b0 : (a0_0 == 1) = false := beq_eq_false_iff_ne.mpr c6
        have c6b1 : (a0_0 != 1) = true := bne_iff_ne.mpr c6
        obtain rfl := Option.some.inj H
        go_enter Try.func71, Try.ntmps71
        go_wp2_with (first | ((with_reducible refine gate_dst (N := 1) rfl ?_); refine box_event ?hg (N := 1) ?hd (cs := #[.int .i64 a0_0, .int .i64 a0_1, .slice A0_2 l0_2.length c0_2, .slice A0_3 l0_3.length c0_3, .int .i64 a0_4, .int .i64 a0_5, .slice A0_6 l0_6.length c0_6, .slice A0_7 l0_7.length c0_7, .int .i64 a0_8]) (t := 29) ?hr ?_; (case hd => rfl); (case hg => rfl); (case hr => first | (go_simp; done) | (go_simp; rfl)); intro gb526 hg w36 hbox hb; have n0_ := Aside0.mk (below_step (by repeat (first | (with_reducible first | exact HB.out | apply below_alloc | apply pw_below_drewN | apply below_drew1) | exact HB.out)) hb); have n1_ := Aside0.mk (hbox); have n2_ := Aside0.mk ((by rw [hg]; exact (below_size (by repeat (first | (with_reducible first | exact HB.out | apply below_alloc | apply pw_below_drewN | apply below_drew1) | exact HB.out))) : w.heap.size ≤ gb526)); have n3_ := Aside0.mk ((by rw [hg]; exact (below_size (by repeat (first | (with_reducible first | exact HB.out | apply below_alloc | apply pw_below_drewN | apply below_drew1) | exact HB.out))) : w.heap.size ≤ gb526)); clear HB; have HB := n0_; have BK526 := n1_; have GW526 := n2_; have GE526 := n3_; clear n0_ n1_ n2_ n3_; clear hb hbox hg; have hcz37_0 : w36.cell? ⟨gb526, 0, none⟩ = some (.int .i64 a0_0) := (blk_cell BK526.out 0).trans rfl; have hcz37_1 : w36.cell? ⟨gb526, 1, none⟩ = some (.int .i64 a0_1) := (blk_cell BK526.out 1).trans rfl; have hcz37_2 : w36.cell? ⟨gb526, 2, none⟩ = some (.slice A0_2 l0_2.length c0_2) := (blk_cell BK526.out 2).trans rfl; have hcz37_3 : w36.cell? ⟨gb526, 3, none⟩ = some (.slice A0_3 l0_3.length c0_3) := (blk_cell BK526.out 3).trans rfl; have hcz37_4 : w36.cell? ⟨gb526, 4, none⟩ = some (.int .i64 a0_4) := (blk_cell BK526.out 4).trans rfl; have hcz37_5 : w36.cell? ⟨gb526, 5, none⟩ = some (.int .i64 a0_5) := (blk_cell BK526.out 5).trans rfl; have hcz37_6 : w36.cell? ⟨gb526, 6, none⟩ = some (.slice A0_6 l0_6.length c0_6) := (blk_cell BK526.out 6).trans rfl; have hcz37_7 : w36.cell? ⟨gb526, 7, none⟩ = some (.slice A0_7 l0_7.length c0_7) := (blk_cell BK526.out 7).trans rfl; have hcz37_8 : w36.cell? ⟨gb526, 8, none⟩ = some (.int .i64 a0_8) := (blk_cell BK526.out 8).trans rfl; have hfz37_0 := blk_frozen BK526.out 0; have hfz37_1 := blk_frozen BK526.out 1; have hfz37_2 := blk_frozen BK526.out 2; have hfz37_3 := blk_frozen BK526.out 3; have hfz37_4 := blk_frozen BK526.out 4; have hfz37_5 := blk_frozen BK526.out 5; have hfz37_6 := blk_frozen BK526.out 6; have hfz37_7 := blk_frozen BK526.out 7; have hfz37_8 := blk_frozen BK526.out 8) | ((with_reducible refine gate_callee (f := 81) rfl ?_); refine goesL_ (some 5) rfl rfl Try.func81 (by kernel_rfl) rfl #[.agg #[.int .i64 a0_0, .int .i64 a0_1, .slice A0_2 l0_2.length c0_2, .slice A0_3 l0_3.length c0_3]] rfl (by (try simp only [List.map_toArray, List.map_cons, List.map_nil]); first | done | rfl | (simp only [List.length_drop, List.length_take]; rfl)) ?_; (with_reducible refine (impl_ColOk.calls a0_0 a0_1 _ _ l0_2 _ _ l0_3 true _ ?side1 ?side2 ?side3 ?side4 A2.out).mono ?_); (case side1 => repeat (first | exact (Kd.C_below HR0_2.out HB.out) | (with_reducible refine Kd.C_alloc ?_ _) | (with_reducible refine Kd.C_drewN ?_ _) | (with_reducible refine Kd.C_drew ?_))); (case side2 => exact HC0_2.out); (case side3 => repeat (first | exact (Kd.C_below HR0_3.out HB.out) | (with_reducible refine Kd.C_alloc ?_ _) | (with_reducible refine Kd.C_drewN ?_ _) | (with_reducible refine Kd.C_drew ?_))); (case side4 => exact HC0_3.out); rintro e w38 ⟨rfl, hb⟩; refine ⟨_, rfl, ?_⟩; have n0_ := Aside0.mk (blk_below (g := gb526) (o := .cells #[.int .i64 a0_0, .int .i64 a0_1, .slice A0_2 l0_2.length c0_2, .slice A0_3 l0_3.length c0_3, .int .i64 a0_4, .int .i64 a0_5, .slice A0_6 l0_6.length c0_6, .slice A0_7 l0_7.length c0_7, .int .i64 a0_8] 29 (0, 0)) (by (with_reducible repeat (first | refine blk_drewN ?_ _ | refine blk_drew ?_ | refine blk_alloc ?_ _)); exact BK526.out) hb); have n1_ := Aside0.mk (below_step (by repeat (first | (with_reducible first | exact HB.out | apply below_alloc | apply pw_below_drewN | apply below_drew1 | refine below_set ?_ GE526.out) | exact HB.out)) hb); clear BK526; clear HB; have BK526 := n0_; have HB := n1_; clear n0_ n1_; (try clear hb); (try clear hb2); (try clear hk); (try clear hi); have hcz39_0 : w38.cell? ⟨gb526, 0, none⟩ = some (.int .i64 a0_0) := (blk_cell BK526.out 0).trans rfl; have hcz39_1 : w38.cell? ⟨gb526, 1, none⟩ = some (.int .i64 a0_1) := (blk_cell BK526.out 1).trans rfl; have hcz39_2 : w38.cell? ⟨gb526, 2, none⟩ = some (.slice A0_2 l0_2.length c0_2) := (blk_cell BK526.out 2).trans rfl; have hcz39_3 : w38.cell? ⟨gb526, 3, none⟩ = some (.slice A0_3 l0_3.length c0_3) := (blk_cell BK526.out 3).trans rfl; have hcz39_4 : w38.cell? ⟨gb526, 4, none⟩ = some (.int .i64 a0_4) := (blk_cell BK526.out 4).trans rfl; have hcz39_5 : w38.cell? ⟨gb526, 5, none⟩ = some (.int .i64 a0_5) := (blk_cell BK526.out 5).trans rfl; have hcz39_6 : w38.cell? ⟨gb526, 6, none⟩ = some (.slice A0_6 l0_6.length c0_6) := (blk_cell BK526.out 6).trans rfl; have hcz39_7 : w38.cell? ⟨gb526, 7, none⟩ = some (.slice A0_7 l0_7.length c0_7) := (blk_cell BK526.out 7).trans rfl; have hcz39_8 : w38.cell? ⟨gb526, 8, none⟩ = some (.int .i64 a0_8) := (blk_cell BK526.out 8).trans rfl; have hfz39_0 := blk_frozen BK526.out 0; have hfz39_1 := blk_frozen BK526.out 1; have hfz39_2 := blk_frozen BK526.out 2; have hfz39_3 := blk_frozen BK526.out 3; have hfz39_4 := blk_frozen BK526.out 4; have hfz39_5 := blk_frozen BK526.out 5; have hfz39_6 := blk_frozen BK526.out 6; have hfz39_7 := blk_frozen BK526.out 7; have hfz39_8 := blk_frozen BK526.out 8) | (go_at_call 81; (with_reducible refine (impl_ColOk.calls a0_4 a0_5 _ _ l0_6 _ _ l0_7 true _ ?side1 ?side2 ?side3 ?side4 A4.out).mono ?_); (case side1 => repeat (first | exact (Kd.C_below HR0_6.out HB.out) | (with_reducible refine Kd.C_alloc ?_ _) | (with_reducible refine Kd.C_drewN ?_ _) | (with_reducible refine Kd.C_drew ?_))); (case side2 => exact HC0_6.out); (case side3 => repeat (first | exact (Kd.C_below HR0_7.out HB.out) | (with_reducible refine Kd.C_alloc ?_ _) | (with_reducible refine Kd.C_drewN ?_ _) | (with_reducible refine Kd.C_drew ?_))); (case side4 => exact HC0_7.out); rintro e w40 ⟨rfl, hb⟩; have n0_ := Aside0.mk (blk_below (g := gb526) (o := .cells #[.int .i64 a0_0, .int .i64 a0_1, .slice A0_2 l0_2.length c0_2, .slice A0_3 l0_3.length c0_3, .int .i64 a0_4, .int .i64 a0_5, .slice A0_6 l0_6.length c0_6, .slice A0_7 l0_7.length c0_7, .int .i64 a0_8] 29 (0, 0)) (by (with_reducible repeat (first | refine blk_drewN ?_ _ | refine blk_drew ?_ | refine blk_alloc ?_ _)); exact BK526.out) hb); have n1_ := Aside0.mk (below_step (by repeat (first | (with_reducible first | exact HB.out | apply below_alloc | apply pw_below_drewN | apply below_drew1 | refine below_set ?_ GE526.out) | exact HB.out)) hb); clear BK526; clear HB; have BK526 := n0_; have HB := n1_; clear n0_ n1_; (try clear hb); (try clear hb2); (try clear hk); (try clear hi); have hcz41_0 : w40.cell? ⟨gb526, 0, none⟩ = some (.int .i64 a0_0) := (blk_cell BK526.out 0).trans rfl; have hcz41_1 : w40.cell? ⟨gb526, 1, none⟩ = some (.int .i64 a0_1) := (blk_cell BK526.out 1).trans rfl; have hcz41_2 : w40.cell? ⟨gb526, 2, none⟩ = some (.slice A0_2 l0_2.length c0_2) := (blk_cell BK526.out 2).trans rfl; have hcz41_3 : w40.cell? ⟨gb526, 3, none⟩ = some (.slice A0_3 l0_3.length c0_3) := (blk_cell BK526.out 3).trans rfl; have hcz41_4 : w40.cell? ⟨gb526, 4, none⟩ = some (.int .i64 a0_4) := (blk_cell BK526.out 4).trans rfl; have hcz41_5 : w40.cell? ⟨gb526, 5, none⟩ = some (.int .i64 a0_5) := (blk_cell BK526.out 5).trans rfl; have hcz41_6 : w40.cell? ⟨gb526, 6, none⟩ = some (.slice A0_6 l0_6.length c0_6) := (blk_cell BK526.out 6).trans rfl; have hcz41_7 : w40.cell? ⟨gb526, 7, none⟩ = some (.slice A0_7 l0_7.length c0_7) := (blk_cell BK526.out 7).trans rfl; have hcz41_8 : w40.cell? ⟨gb526, 8, none⟩ = some (.int .i64 a0_8) := (blk_cell BK526.out 8).trans rfl; have hfz41_0 := blk_frozen BK526.out 0; have hfz41_1 := blk_frozen BK526.out 1; have hfz41_2 := blk_frozen BK526.out 2; have hfz41_3 := blk_frozen BK526.out 3; have hfz41_4 := blk_frozen BK526.out 4; have hfz41_5 := blk_frozen BK526.out 5; have hfz41_6 := blk_frozen BK526.out 6; have hfz41_7 := blk_frozen BK526.out 7; have hfz41_8 := blk_frozen BK526.out 8))
        go_ret
        exact ⟨by first | rfl | (simp [errW_none, errW_some] <;> rfl) | (simp [*, errW_none, errW_some] <;> rfl), by repeat (first | (with_reducible first | exact HB.out | apply below_alloc | apply pw_below_drewN | apply below_drew1 | refine below_set ?_ GE526.out) | exact HB.out)⟩
    · replace c5 := Bool.eq_false_iff.mpr c5
      subst c5
      have H1 : (some false) = some r := by rw [if_neg (show ¬ (false = true) by decide)] at H; exact H
      clear H
      have H := H1
      clear H1
      obtain rfl := Option.some.inj H
      go_enter Try.func71, Try.ntmps71
      go_wp2_with (first | ((with_reducible refine gate_dst (N := 1) rfl ?_); refine box_event ?hg (N := 1) ?hd (cs := #[.int .i64 a0_0, .int .i64 a0_1, .slice A0_2 l0_2.length c0_2, .slice A0_3 l0_3.length c0_3, .int .i64 a0_4, .int .i64 a0_5, .slice A0_6 l0_6.length c0_6, .slice A0_7 l0_7.length c0_7, .int .i64 a0_8]) (t := 29) ?hr ?_; (case hd => rfl); (case hg => rfl); (case hr => first | (go_simp; done) | (go_simp; rfl)); intro gb526 hg w42 hbox hb; have n0_ := Aside0.mk (below_step (by repeat (first | (with_reducible first | exact HB.out | apply below_alloc | apply pw_below_drewN | apply below_drew1) | exact HB.out)) hb); have n1_ := Aside0.mk (hbox); have n2_ := Aside0.mk ((by rw [hg]; exact (below_size (by repeat (first | (with_reducible first | exact HB.out | apply below_alloc | apply pw_below_drewN | apply below_drew1) | exact HB.out))) : w.heap.size ≤ gb526)); have n3_ := Aside0.mk ((by rw [hg]; exact (below_size (by repeat (first | (with_reducible first | exact HB.out | apply below_alloc | apply pw_below_drewN | apply below_drew1) | exact HB.out))) : w.heap.size ≤ gb526)); clear HB; have HB := n0_; have BK526 := n1_; have GW526 := n2_; have GE526 := n3_; clear n0_ n1_ n2_ n3_; clear hb hbox hg; have hcz43_0 : w42.cell? ⟨gb526, 0, none⟩ = some (.int .i64 a0_0) := (blk_cell BK526.out 0).trans rfl; have hcz43_1 : w42.cell? ⟨gb526, 1, none⟩ = some (.int .i64 a0_1) := (blk_cell BK526.out 1).trans rfl; have hcz43_2 : w42.cell? ⟨gb526, 2, none⟩ = some (.slice A0_2 l0_2.length c0_2) := (blk_cell BK526.out 2).trans rfl; have hcz43_3 : w42.cell? ⟨gb526, 3, none⟩ = some (.slice A0_3 l0_3.length c0_3) := (blk_cell BK526.out 3).trans rfl; have hcz43_4 : w42.cell? ⟨gb526, 4, none⟩ = some (.int .i64 a0_4) := (blk_cell BK526.out 4).trans rfl; have hcz43_5 : w42.cell? ⟨gb526, 5, none⟩ = some (.int .i64 a0_5) := (blk_cell BK526.out 5).trans rfl; have hcz43_6 : w42.cell? ⟨gb526, 6, none⟩ = some (.slice A0_6 l0_6.length c0_6) := (blk_cell BK526.out 6).trans rfl; have hcz43_7 : w42.cell? ⟨gb526, 7, none⟩ = some (.slice A0_7 l0_7.length c0_7) := (blk_cell BK526.out 7).trans rfl; have hcz43_8 : w42.cell? ⟨gb526, 8, none⟩ = some (.int .i64 a0_8) := (blk_cell BK526.out 8).trans rfl; have hfz43_0 := blk_frozen BK526.out 0; have hfz43_1 := blk_frozen BK526.out 1; have hfz43_2 := blk_frozen BK526.out 2; have hfz43_3 := blk_frozen BK526.out 3; have hfz43_4 := blk_frozen BK526.out 4; have hfz43_5 := blk_frozen BK526.out 5; have hfz43_6 := blk_frozen BK526.out 6; have hfz43_7 := blk_frozen BK526.out 7; have hfz43_8 := blk_frozen BK526.out 8) | ((with_reducible refine gate_callee (f := 81) rfl ?_); refine goesL_ (some 5) rfl rfl Try.func81 (by kernel_rfl) rfl #[.agg #[.int .i64 a0_0, .int .i64 a0_1, .slice A0_2 l0_2.length c0_2, .slice A0_3 l0_3.length c0_3]] rfl (by (try simp only [List.map_toArray, List.map_cons, List.map_nil]); first | done | rfl | (simp only [List.length_drop, List.length_take]; rfl)) ?_; (with_reducible refine (impl_ColOk.calls a0_0 a0_1 _ _ l0_2 _ _ l0_3 true _ ?side1 ?side2 ?side3 ?side4 A2.out).mono ?_); (case side1 => repeat (first | exact (Kd.C_below HR0_2.out HB.out) | (with_reducible refine Kd.C_alloc ?_ _) | (with_reducible refine Kd.C_drewN ?_ _) | (with_reducible refine Kd.C_drew ?_))); (case side2 => exact HC0_2.out); (case side3 => repeat (first | exact (Kd.C_below HR0_3.out HB.out) | (with_reducible refine Kd.C_alloc ?_ _) | (with_reducible refine Kd.C_drewN ?_ _) | (with_reducible refine Kd.C_drew ?_))); (case side4 => exact HC0_3.out); rintro e w44 ⟨rfl, hb⟩; refine ⟨_, rfl, ?_⟩; have n0_ := Aside0.mk (blk_below (g := gb526) (o := .cells #[.int .i64 a0_0, .int .i64 a0_1, .slice A0_2 l0_2.length c0_2, .slice A0_3 l0_3.length c0_3, .int .i64 a0_4, .int .i64 a0_5, .slice A0_6 l0_6.length c0_6, .slice A0_7 l0_7.length c0_7, .int .i64 a0_8] 29 (0, 0)) (by (with_reducible repeat (first | refine blk_drewN ?_ _ | refine blk_drew ?_ | refine blk_alloc ?_ _)); exact BK526.out) hb); have n1_ := Aside0.mk (below_step (by repeat (first | (with_reducible first | exact HB.out | apply below_alloc | apply pw_below_drewN | apply below_drew1 | refine below_set ?_ GE526.out) | exact HB.out)) hb); clear BK526; clear HB; have BK526 := n0_; have HB := n1_; clear n0_ n1_; (try clear hb); (try clear hb2); (try clear hk); (try clear hi); have hcz45_0 : w44.cell? ⟨gb526, 0, none⟩ = some (.int .i64 a0_0) := (blk_cell BK526.out 0).trans rfl; have hcz45_1 : w44.cell? ⟨gb526, 1, none⟩ = some (.int .i64 a0_1) := (blk_cell BK526.out 1).trans rfl; have hcz45_2 : w44.cell? ⟨gb526, 2, none⟩ = some (.slice A0_2 l0_2.length c0_2) := (blk_cell BK526.out 2).trans rfl; have hcz45_3 : w44.cell? ⟨gb526, 3, none⟩ = some (.slice A0_3 l0_3.length c0_3) := (blk_cell BK526.out 3).trans rfl; have hcz45_4 : w44.cell? ⟨gb526, 4, none⟩ = some (.int .i64 a0_4) := (blk_cell BK526.out 4).trans rfl; have hcz45_5 : w44.cell? ⟨gb526, 5, none⟩ = some (.int .i64 a0_5) := (blk_cell BK526.out 5).trans rfl; have hcz45_6 : w44.cell? ⟨gb526, 6, none⟩ = some (.slice A0_6 l0_6.length c0_6) := (blk_cell BK526.out 6).trans rfl; have hcz45_7 : w44.cell? ⟨gb526, 7, none⟩ = some (.slice A0_7 l0_7.length c0_7) := (blk_cell BK526.out 7).trans rfl; have hcz45_8 : w44.cell? ⟨gb526, 8, none⟩ = some (.int .i64 a0_8) := (blk_cell BK526.out 8).trans rfl; have hfz45_0 := blk_frozen BK526.out 0; have hfz45_1 := blk_frozen BK526.out 1; have hfz45_2 := blk_frozen BK526.out 2; have hfz45_3 := blk_frozen BK526.out 3; have hfz45_4 := blk_frozen BK526.out 4; have hfz45_5 := blk_frozen BK526.out 5; have hfz45_6 := blk_frozen BK526.out 6; have hfz45_7 := blk_frozen BK526.out 7; have hfz45_8 := blk_frozen BK526.out 8) | (go_at_call 81; (with_reducible refine (impl_ColOk.calls a0_4 a0_5 _ _ l0_6 _ _ l0_7 false _ ?side1 ?side2 ?side3 ?side4 A4.out).mono ?_); (case side1 => repeat (first | exact (Kd.C_below HR0_6.out HB.out) | (with_reducible refine Kd.C_alloc ?_ _) | (with_reducible refine Kd.C_drewN ?_ _) | (with_reducible refine Kd.C_drew ?_))); (case side2 => exact HC0_6.out); (case side3 => repeat (first | exact (Kd.C_below HR0_7.out HB.out) | (with_reducible refine Kd.C_alloc ?_ _) | (with_reducible refine Kd.C_drewN ?_ _) | (with_reducible refine Kd.C_drew ?_))); (case side4 => exact HC0_7.out); rintro e w46 ⟨rfl, hb⟩; have n0_ := Aside0.mk (blk_below (g := gb526) (o := .cells #[.int .i64 a0_0, .int .i64 a0_1, .slice A0_2 l0_2.length c0_2, .slice A0_3 l0_3.length c0_3, .int .i64 a0_4, .int .i64 a0_5, .slice A0_6 l0_6.length c0_6, .slice A0_7 l0_7.length c0_7, .int .i64 a0_8] 29 (0, 0)) (by (with_reducible repeat (first | refine blk_drewN ?_ _ | refine blk_drew ?_ | refine blk_alloc ?_ _)); exact BK526.out) hb); have n1_ := Aside0.mk (below_step (by repeat (first | (with_reducible first | exact HB.out | apply below_alloc | apply pw_below_drewN | apply below_drew1 | refine below_set ?_ GE526.out) | exact HB.out)) hb); clear BK526; clear HB; have BK526 := n0_; have HB := n1_; clear n0_ n1_; (try clear hb); (try clear hb2); (try clear hk); (try clear hi)))
      go_ret
      exact ⟨by first | rfl | (simp [errW_none, errW_some] <;> rfl) | (simp [*, errW_none, errW_some] <;> rfl), by repeat (first | (with_reducible first | exact HB.out | apply below_alloc | apply pw_below_drewN | apply below_drew1 | refine below_set ?_ GE526.out) | exact HB.out)⟩
  · replace c3 := Bool.eq_false_iff.mpr c3
    subst c3
    have H1 : (some false) = some r := by rw [if_neg (show ¬ (false = true) by decide)] at H; exact H
    clear H
    have H := H1
    clear H1
    obtain rfl := Option.some.inj H
    go_enter Try.func71, Try.ntmps71
    go_wp2_with (first | ((with_reducible refine gate_dst (N := 1) rfl ?_); refine box_event ?hg (N := 1) ?hd (cs := #[.int .i64 a0_0, .int .i64 a0_1, .slice A0_2 l0_2.length c0_2, .slice A0_3 l0_3.length c0_3, .int .i64 a0_4, .int .i64 a0_5, .slice A0_6 l0_6.length c0_6, .slice A0_7 l0_7.length c0_7, .int .i64 a0_8]) (t := 29) ?hr ?_; (case hd => rfl); (case hg => rfl); (case hr => first | (go_simp; done) | (go_simp; rfl)); intro gb526 hg w47 hbox hb; have n0_ := Aside0.mk (below_step (by repeat (first | (with_reducible first | exact HB.out | apply below_alloc | apply pw_below_drewN | apply below_drew1) | exact HB.out)) hb); have n1_ := Aside0.mk (hbox); have n2_ := Aside0.mk ((by rw [hg]; exact (below_size (by repeat (first | (with_reducible first | exact HB.out | apply below_alloc | apply pw_below_drewN | apply below_drew1) | exact HB.out))) : w.heap.size ≤ gb526)); have n3_ := Aside0.mk ((by rw [hg]; exact (below_size (by repeat (first | (with_reducible first | exact HB.out | apply below_alloc | apply pw_below_drewN | apply below_drew1) | exact HB.out))) : w.heap.size ≤ gb526)); clear HB; have HB := n0_; have BK526 := n1_; have GW526 := n2_; have GE526 := n3_; clear n0_ n1_ n2_ n3_; clear hb hbox hg; have hcz48_0 : w47.cell? ⟨gb526, 0, none⟩ = some (.int .i64 a0_0) := (blk_cell BK526.out 0).trans rfl; have hcz48_1 : w47.cell? ⟨gb526, 1, none⟩ = some (.int .i64 a0_1) := (blk_cell BK526.out 1).trans rfl; have hcz48_2 : w47.cell? ⟨gb526, 2, none⟩ = some (.slice A0_2 l0_2.length c0_2) := (blk_cell BK526.out 2).trans rfl; have hcz48_3 : w47.cell? ⟨gb526, 3, none⟩ = some (.slice A0_3 l0_3.length c0_3) := (blk_cell BK526.out 3).trans rfl; have hcz48_4 : w47.cell? ⟨gb526, 4, none⟩ = some (.int .i64 a0_4) := (blk_cell BK526.out 4).trans rfl; have hcz48_5 : w47.cell? ⟨gb526, 5, none⟩ = some (.int .i64 a0_5) := (blk_cell BK526.out 5).trans rfl; have hcz48_6 : w47.cell? ⟨gb526, 6, none⟩ = some (.slice A0_6 l0_6.length c0_6) := (blk_cell BK526.out 6).trans rfl; have hcz48_7 : w47.cell? ⟨gb526, 7, none⟩ = some (.slice A0_7 l0_7.length c0_7) := (blk_cell BK526.out 7).trans rfl; have hcz48_8 : w47.cell? ⟨gb526, 8, none⟩ = some (.int .i64 a0_8) := (blk_cell BK526.out 8).trans rfl; have hfz48_0 := blk_frozen BK526.out 0; have hfz48_1 := blk_frozen BK526.out 1; have hfz48_2 := blk_frozen BK526.out 2; have hfz48_3 := blk_frozen BK526.out 3; have hfz48_4 := blk_frozen BK526.out 4; have hfz48_5 := blk_frozen BK526.out 5; have hfz48_6 := blk_frozen BK526.out 6; have hfz48_7 := blk_frozen BK526.out 7; have hfz48_8 := blk_frozen BK526.out 8) | ((with_reducible refine gate_callee (f := 81) rfl ?_); refine goesL_ (some 5) rfl rfl Try.func81 (by kernel_rfl) rfl #[.agg #[.int .i64 a0_0, .int .i64 a0_1, .slice A0_2 l0_2.length c0_2, .slice A0_3 l0_3.length c0_3]] rfl (by (try simp only [List.map_toArray, List.map_cons, List.map_nil]); first | done | rfl | (simp only [List.length_drop, List.length_take]; rfl)) ?_; (with_reducible refine (impl_ColOk.calls a0_0 a0_1 _ _ l0_2 _ _ l0_3 false _ ?side1 ?side2 ?side3 ?side4 A2.out).mono ?_); (case side1 => repeat (first | exact (Kd.C_below HR0_2.out HB.out) | (with_reducible refine Kd.C_alloc ?_ _) | (with_reducible refine Kd.C_drewN ?_ _) | (with_reducible refine Kd.C_drew ?_))); (case side2 => exact HC0_2.out); (case side3 => repeat (first | exact (Kd.C_below HR0_3.out HB.out) | (with_reducible refine Kd.C_alloc ?_ _) | (with_reducible refine Kd.C_drewN ?_ _) | (with_reducible refine Kd.C_drew ?_))); (case side4 => exact HC0_3.out); rintro e w49 ⟨rfl, hb⟩; refine ⟨_, rfl, ?_⟩; have n0_ := Aside0.mk (blk_below (g := gb526) (o := .cells #[.int .i64 a0_0, .int .i64 a0_1, .slice A0_2 l0_2.length c0_2, .slice A0_3 l0_3.length c0_3, .int .i64 a0_4, .int .i64 a0_5, .slice A0_6 l0_6.length c0_6, .slice A0_7 l0_7.length c0_7, .int .i64 a0_8] 29 (0, 0)) (by (with_reducible repeat (first | refine blk_drewN ?_ _ | refine blk_drew ?_ | refine blk_alloc ?_ _)); exact BK526.out) hb); have n1_ := Aside0.mk (below_step (by repeat (first | (with_reducible first | exact HB.out | apply below_alloc | apply pw_below_drewN | apply below_drew1 | refine below_set ?_ GE526.out) | exact HB.out)) hb); clear BK526; clear HB; have BK526 := n0_; have HB := n1_; clear n0_ n1_; (try clear hb); (try clear hb2); (try clear hk); (try clear hi)))
    go_ret
    exact ⟨by first | rfl | (simp [errW_none, errW_some] <;> rfl) | (simp [*, errW_none, errW_some] <;> rfl), by repeat (first | (with_reducible first | exact HB.out | apply below_alloc | apply pw_below_drewN | apply below_drew1 | refine below_set ?_ GE526.out) | exact HB.out)⟩
end Go.Proofs.Ytnffoddeppimkaa.P
namespace Go.Proofs.Ytnffoddeppimkaa.P
open Go.RowKit Go.Proofs.YtnffoddeppimkaaW.PrintWords Go.Proofs.YtnffoddeppimkaaW.PrintLast Go.Proofs.YtnffoddeppimkaaW.PrintMore
attribute [local go_sem] max2_int min2_int max_two min_two max_three min_three max_four min_four
set_option linter.unusedVariables false
set_option linter.unusedSimpArgs false
set_option maxHeartbeats 4000000 in
set_option maxRecDepth 20000 in
theorem asking_c (k n cn cd b0 b1 b4 b5 b8 ln ld : Int) (A2 A3 A6 A7 LA : Option Addr) (n2 c2 n3 c3 n6 c6 n7 c7 nl cl : Nat) (x y z : Bool) (w : World)
    (hx : ∀ W, Calls Try.prog 70 #[.agg #[.int .i64 k, .int .i64 n, .int .i64 cn, .int .i64 cd]] W fun e w' => e = .returned (.bool x) ∧ Below W.heap.size W w')
    (hy : ∀ W, Below w.heap.size w W → Calls Try.prog 71 #[.agg #[.int .i64 b0, .int .i64 b1, .slice A2 n2 c2, .slice A3 n3 c3, .int .i64 b4, .int .i64 b5, .slice A6 n6 c6, .slice A7 n7 c7, .int .i64 b8]] W fun e w' => e = .returned (.bool y) ∧ Below W.heap.size W w')
    (hz : ∀ W, Below w.heap.size w W → Calls Try.prog 72 #[.agg #[.int .i64 ln, .int .i64 ld, .slice LA nl cl]] W fun e w' => e = .returned (.bool z) ∧ Below W.heap.size W w') :
    Calls Try.prog 44 #[.agg #[.int .i64 k, .int .i64 n, .int .i64 cn, .int .i64 cd], .agg #[.int .i64 b0, .int .i64 b1, .slice A2 n2 c2, .slice A3 n3 c3, .int .i64 b4, .int .i64 b5, .slice A6 n6 c6, .slice A7 n7 c7, .int .i64 b8], .agg #[.int .i64 ln, .int .i64 ld, .slice LA nl cl]] w fun e w' =>
      e = .returned (.tuple #[.func (.func 68) #[] #[.pointer (some ⟨w.heap.size + 1, 0, none⟩), .pointer (some ⟨w.heap.size, 0, none⟩), .pointer (some ⟨w.heap.size + 1 + 1, 0, none⟩)], .bool (x && (y && z))]) ∧
      Locals w' [(⟨w.heap.size, 0, none⟩, .int .i64 k), (⟨w.heap.size, 1, none⟩, .int .i64 n), (⟨w.heap.size, 2, none⟩, .int .i64 cn), (⟨w.heap.size, 3, none⟩, .int .i64 cd), (⟨w.heap.size + 1, 0, none⟩, .int .i64 b0), (⟨w.heap.size + 1, 1, none⟩, .int .i64 b1), (⟨w.heap.size + 1, 2, none⟩, .slice A2 n2 c2), (⟨w.heap.size + 1, 3, none⟩, .slice A3 n3 c3), (⟨w.heap.size + 1, 4, none⟩, .int .i64 b4), (⟨w.heap.size + 1, 5, none⟩, .int .i64 b5), (⟨w.heap.size + 1, 6, none⟩, .slice A6 n6 c6), (⟨w.heap.size + 1, 7, none⟩, .slice A7 n7 c7), (⟨w.heap.size + 1, 8, none⟩, .int .i64 b8), (⟨w.heap.size + 1 + 1, 0, none⟩, .int .i64 ln), (⟨w.heap.size + 1 + 1, 1, none⟩, .int .i64 ld), (⟨w.heap.size + 1 + 1, 2, none⟩, .slice LA nl cl)] ∧ Below w.heap.size w w' := by
  have hu1 := Try.underlying54
  have hu2 := Try.underlying29
  have hu3 := Try.underlying33
  have hu4 := Try.underlying27
  have HX := Lib.hid hx
  have HY := Lib.hid hy
  have HZ := Lib.hid hz
  clear hx hy hz
  cases x
  · go_enter Try.func44, Try.ntmps44
    go_wp2_with fail
    refine (HX.out _).mono ?_; rintro e w1 ⟨rfl, hb1⟩; have hzw1_0 : w.heap.size < w1.heap.size := (by have hzz := hb1.size; (try simp at hzz); omega); have hzw1_1 : w.heap.size + 1 < w1.heap.size := (by have hzz := hb1.size; (try simp at hzz); omega); have hzw1_2 : w.heap.size + 1 + 1 < w1.heap.size := (by have hzz := hb1.size; (try simp at hzz); omega); have Lw1 := Locals.call hb1 (L := [(⟨w.heap.size, 0, none⟩, .int .i64 k), (⟨w.heap.size, 1, none⟩, .int .i64 n), (⟨w.heap.size, 2, none⟩, .int .i64 cn), (⟨w.heap.size, 3, none⟩, .int .i64 cd), (⟨w.heap.size + 1, 0, none⟩, .int .i64 b0), (⟨w.heap.size + 1, 1, none⟩, .int .i64 b1), (⟨w.heap.size + 1, 2, none⟩, .slice A2 n2 c2), (⟨w.heap.size + 1, 3, none⟩, .slice A3 n3 c3), (⟨w.heap.size + 1, 4, none⟩, .int .i64 b4), (⟨w.heap.size + 1, 5, none⟩, .int .i64 b5), (⟨w.heap.size + 1, 6, none⟩, .slice A6 n6 c6), (⟨w.heap.size + 1, 7, none⟩, .slice A7 n7 c7), (⟨w.heap.size + 1, 8, none⟩, .int .i64 b8), (⟨w.heap.size + 1 + 1, 0, none⟩, .int .i64 ln), (⟨w.heap.size + 1 + 1, 1, none⟩, .int .i64 ld), (⟨w.heap.size + 1 + 1, 2, none⟩, .slice LA nl cl)]) (by simp only [Locals]; repeat' (first | exact trivial | apply And.intro) <;> go_simp); obtain ⟨⟨cw1_0, fw1_0⟩, ⟨cw1_1, fw1_1⟩, ⟨cw1_2, fw1_2⟩, ⟨cw1_3, fw1_3⟩, ⟨cw1_4, fw1_4⟩, ⟨cw1_5, fw1_5⟩, ⟨cw1_6, fw1_6⟩, ⟨cw1_7, fw1_7⟩, ⟨cw1_8, fw1_8⟩, ⟨cw1_9, fw1_9⟩, ⟨cw1_10, fw1_10⟩, ⟨cw1_11, fw1_11⟩, ⟨cw1_12, fw1_12⟩, ⟨cw1_13, fw1_13⟩, ⟨cw1_14, fw1_14⟩, ⟨cw1_15, fw1_15⟩, -⟩ := Lw1
    go_wp2_with fail
    go_ret2
    exact ⟨rfl, (by (simp only [Locals]; repeat' (first | exact trivial | apply And.intro) <;> go_simp)), (by repeat' (first | with_reducible exact bl_refl _ | with_reducible apply bl_alloc | with_reducible apply bl_drewN | with_reducible apply bl_drew | with_reducible apply bl_set | with_reducible refine bl_call (by assumption) ?_ | (simp; done) | (simp; omega) | omega))⟩
  cases y
  · go_enter Try.func44, Try.ntmps44
    go_wp2_with fail
    refine (HX.out _).mono ?_; rintro e w1 ⟨rfl, hb1⟩; have hzw1_0 : w.heap.size < w1.heap.size := (by have hzz := hb1.size; (try simp at hzz); omega); have hzw1_1 : w.heap.size + 1 < w1.heap.size := (by have hzz := hb1.size; (try simp at hzz); omega); have hzw1_2 : w.heap.size + 1 + 1 < w1.heap.size := (by have hzz := hb1.size; (try simp at hzz); omega); have Lw1 := Locals.call hb1 (L := [(⟨w.heap.size, 0, none⟩, .int .i64 k), (⟨w.heap.size, 1, none⟩, .int .i64 n), (⟨w.heap.size, 2, none⟩, .int .i64 cn), (⟨w.heap.size, 3, none⟩, .int .i64 cd), (⟨w.heap.size + 1, 0, none⟩, .int .i64 b0), (⟨w.heap.size + 1, 1, none⟩, .int .i64 b1), (⟨w.heap.size + 1, 2, none⟩, .slice A2 n2 c2), (⟨w.heap.size + 1, 3, none⟩, .slice A3 n3 c3), (⟨w.heap.size + 1, 4, none⟩, .int .i64 b4), (⟨w.heap.size + 1, 5, none⟩, .int .i64 b5), (⟨w.heap.size + 1, 6, none⟩, .slice A6 n6 c6), (⟨w.heap.size + 1, 7, none⟩, .slice A7 n7 c7), (⟨w.heap.size + 1, 8, none⟩, .int .i64 b8), (⟨w.heap.size + 1 + 1, 0, none⟩, .int .i64 ln), (⟨w.heap.size + 1 + 1, 1, none⟩, .int .i64 ld), (⟨w.heap.size + 1 + 1, 2, none⟩, .slice LA nl cl)]) (by simp only [Locals]; repeat' (first | exact trivial | apply And.intro) <;> go_simp); obtain ⟨⟨cw1_0, fw1_0⟩, ⟨cw1_1, fw1_1⟩, ⟨cw1_2, fw1_2⟩, ⟨cw1_3, fw1_3⟩, ⟨cw1_4, fw1_4⟩, ⟨cw1_5, fw1_5⟩, ⟨cw1_6, fw1_6⟩, ⟨cw1_7, fw1_7⟩, ⟨cw1_8, fw1_8⟩, ⟨cw1_9, fw1_9⟩, ⟨cw1_10, fw1_10⟩, ⟨cw1_11, fw1_11⟩, ⟨cw1_12, fw1_12⟩, ⟨cw1_13, fw1_13⟩, ⟨cw1_14, fw1_14⟩, ⟨cw1_15, fw1_15⟩, -⟩ := Lw1
    go_wp2_with fail
    refine (HY.out _ (by repeat' (first | with_reducible exact bl_refl _ | with_reducible apply bl_alloc | with_reducible apply bl_drewN | with_reducible apply bl_drew | with_reducible apply bl_set | with_reducible refine bl_call (by assumption) ?_ | (simp; done) | (simp; omega) | omega))).mono ?_; rintro e w2 ⟨rfl, hb2⟩; have hzw2_0 : w.heap.size < w2.heap.size := (by have hzz := hb2.size; (try simp at hzz); omega); have hzw2_1 : w.heap.size + 1 < w2.heap.size := (by have hzz := hb2.size; (try simp at hzz); omega); have hzw2_2 : w.heap.size + 1 + 1 < w2.heap.size := (by have hzz := hb2.size; (try simp at hzz); omega); have Lw2 := Locals.call hb2 (L := [(⟨w.heap.size, 0, none⟩, .int .i64 k), (⟨w.heap.size, 1, none⟩, .int .i64 n), (⟨w.heap.size, 2, none⟩, .int .i64 cn), (⟨w.heap.size, 3, none⟩, .int .i64 cd), (⟨w.heap.size + 1, 0, none⟩, .int .i64 b0), (⟨w.heap.size + 1, 1, none⟩, .int .i64 b1), (⟨w.heap.size + 1, 2, none⟩, .slice A2 n2 c2), (⟨w.heap.size + 1, 3, none⟩, .slice A3 n3 c3), (⟨w.heap.size + 1, 4, none⟩, .int .i64 b4), (⟨w.heap.size + 1, 5, none⟩, .int .i64 b5), (⟨w.heap.size + 1, 6, none⟩, .slice A6 n6 c6), (⟨w.heap.size + 1, 7, none⟩, .slice A7 n7 c7), (⟨w.heap.size + 1, 8, none⟩, .int .i64 b8), (⟨w.heap.size + 1 + 1, 0, none⟩, .int .i64 ln), (⟨w.heap.size + 1 + 1, 1, none⟩, .int .i64 ld), (⟨w.heap.size + 1 + 1, 2, none⟩, .slice LA nl cl)]) (by simp only [Locals]; repeat' (first | exact trivial | apply And.intro) <;> go_simp); obtain ⟨⟨cw2_0, fw2_0⟩, ⟨cw2_1, fw2_1⟩, ⟨cw2_2, fw2_2⟩, ⟨cw2_3, fw2_3⟩, ⟨cw2_4, fw2_4⟩, ⟨cw2_5, fw2_5⟩, ⟨cw2_6, fw2_6⟩, ⟨cw2_7, fw2_7⟩, ⟨cw2_8, fw2_8⟩, ⟨cw2_9, fw2_9⟩, ⟨cw2_10, fw2_10⟩, ⟨cw2_11, fw2_11⟩, ⟨cw2_12, fw2_12⟩, ⟨cw2_13, fw2_13⟩, ⟨cw2_14, fw2_14⟩, ⟨cw2_15, fw2_15⟩, -⟩ := Lw2
    go_wp2_with fail
    go_ret2
    exact ⟨rfl, (by (simp only [Locals]; repeat' (first | exact trivial | apply And.intro) <;> go_simp)), (by repeat' (first | with_reducible exact bl_refl _ | with_reducible apply bl_alloc | with_reducible apply bl_drewN | with_reducible apply bl_drew | with_reducible apply bl_set | with_reducible refine bl_call (by assumption) ?_ | (simp; done) | (simp; omega) | omega))⟩
  · go_enter Try.func44, Try.ntmps44
    go_wp2_with fail
    refine (HX.out _).mono ?_; rintro e w1 ⟨rfl, hb1⟩; have hzw1_0 : w.heap.size < w1.heap.size := (by have hzz := hb1.size; (try simp at hzz); omega); have hzw1_1 : w.heap.size + 1 < w1.heap.size := (by have hzz := hb1.size; (try simp at hzz); omega); have hzw1_2 : w.heap.size + 1 + 1 < w1.heap.size := (by have hzz := hb1.size; (try simp at hzz); omega); have Lw1 := Locals.call hb1 (L := [(⟨w.heap.size, 0, none⟩, .int .i64 k), (⟨w.heap.size, 1, none⟩, .int .i64 n), (⟨w.heap.size, 2, none⟩, .int .i64 cn), (⟨w.heap.size, 3, none⟩, .int .i64 cd), (⟨w.heap.size + 1, 0, none⟩, .int .i64 b0), (⟨w.heap.size + 1, 1, none⟩, .int .i64 b1), (⟨w.heap.size + 1, 2, none⟩, .slice A2 n2 c2), (⟨w.heap.size + 1, 3, none⟩, .slice A3 n3 c3), (⟨w.heap.size + 1, 4, none⟩, .int .i64 b4), (⟨w.heap.size + 1, 5, none⟩, .int .i64 b5), (⟨w.heap.size + 1, 6, none⟩, .slice A6 n6 c6), (⟨w.heap.size + 1, 7, none⟩, .slice A7 n7 c7), (⟨w.heap.size + 1, 8, none⟩, .int .i64 b8), (⟨w.heap.size + 1 + 1, 0, none⟩, .int .i64 ln), (⟨w.heap.size + 1 + 1, 1, none⟩, .int .i64 ld), (⟨w.heap.size + 1 + 1, 2, none⟩, .slice LA nl cl)]) (by simp only [Locals]; repeat' (first | exact trivial | apply And.intro) <;> go_simp); obtain ⟨⟨cw1_0, fw1_0⟩, ⟨cw1_1, fw1_1⟩, ⟨cw1_2, fw1_2⟩, ⟨cw1_3, fw1_3⟩, ⟨cw1_4, fw1_4⟩, ⟨cw1_5, fw1_5⟩, ⟨cw1_6, fw1_6⟩, ⟨cw1_7, fw1_7⟩, ⟨cw1_8, fw1_8⟩, ⟨cw1_9, fw1_9⟩, ⟨cw1_10, fw1_10⟩, ⟨cw1_11, fw1_11⟩, ⟨cw1_12, fw1_12⟩, ⟨cw1_13, fw1_13⟩, ⟨cw1_14, fw1_14⟩, ⟨cw1_15, fw1_15⟩, -⟩ := Lw1
    go_wp2_with fail
    refine (HY.out _ (by repeat' (first | with_reducible exact bl_refl _ | with_reducible apply bl_alloc | with_reducible apply bl_drewN | with_reducible apply bl_drew | with_reducible apply bl_set | with_reducible refine bl_call (by assumption) ?_ | (simp; done) | (simp; omega) | omega))).mono ?_; rintro e w2 ⟨rfl, hb2⟩; have hzw2_0 : w.heap.size < w2.heap.size := (by have hzz := hb2.size; (try simp at hzz); omega); have hzw2_1 : w.heap.size + 1 < w2.heap.size := (by have hzz := hb2.size; (try simp at hzz); omega); have hzw2_2 : w.heap.size + 1 + 1 < w2.heap.size := (by have hzz := hb2.size; (try simp at hzz); omega); have Lw2 := Locals.call hb2 (L := [(⟨w.heap.size, 0, none⟩, .int .i64 k), (⟨w.heap.size, 1, none⟩, .int .i64 n), (⟨w.heap.size, 2, none⟩, .int .i64 cn), (⟨w.heap.size, 3, none⟩, .int .i64 cd), (⟨w.heap.size + 1, 0, none⟩, .int .i64 b0), (⟨w.heap.size + 1, 1, none⟩, .int .i64 b1), (⟨w.heap.size + 1, 2, none⟩, .slice A2 n2 c2), (⟨w.heap.size + 1, 3, none⟩, .slice A3 n3 c3), (⟨w.heap.size + 1, 4, none⟩, .int .i64 b4), (⟨w.heap.size + 1, 5, none⟩, .int .i64 b5), (⟨w.heap.size + 1, 6, none⟩, .slice A6 n6 c6), (⟨w.heap.size + 1, 7, none⟩, .slice A7 n7 c7), (⟨w.heap.size + 1, 8, none⟩, .int .i64 b8), (⟨w.heap.size + 1 + 1, 0, none⟩, .int .i64 ln), (⟨w.heap.size + 1 + 1, 1, none⟩, .int .i64 ld), (⟨w.heap.size + 1 + 1, 2, none⟩, .slice LA nl cl)]) (by simp only [Locals]; repeat' (first | exact trivial | apply And.intro) <;> go_simp); obtain ⟨⟨cw2_0, fw2_0⟩, ⟨cw2_1, fw2_1⟩, ⟨cw2_2, fw2_2⟩, ⟨cw2_3, fw2_3⟩, ⟨cw2_4, fw2_4⟩, ⟨cw2_5, fw2_5⟩, ⟨cw2_6, fw2_6⟩, ⟨cw2_7, fw2_7⟩, ⟨cw2_8, fw2_8⟩, ⟨cw2_9, fw2_9⟩, ⟨cw2_10, fw2_10⟩, ⟨cw2_11, fw2_11⟩, ⟨cw2_12, fw2_12⟩, ⟨cw2_13, fw2_13⟩, ⟨cw2_14, fw2_14⟩, ⟨cw2_15, fw2_15⟩, -⟩ := Lw2
    go_wp2_with fail
    refine (HZ.out _ (by repeat' (first | with_reducible exact bl_refl _ | with_reducible apply bl_alloc | with_reducible apply bl_drewN | with_reducible apply bl_drew | with_reducible apply bl_set | with_reducible refine bl_call (by assumption) ?_ | (simp; done) | (simp; omega) | omega))).mono ?_; rintro e w3 ⟨rfl, hb3⟩; have hzw3_0 : w.heap.size < w3.heap.size := (by have hzz := hb3.size; (try simp at hzz); omega); have hzw3_1 : w.heap.size + 1 < w3.heap.size := (by have hzz := hb3.size; (try simp at hzz); omega); have hzw3_2 : w.heap.size + 1 + 1 < w3.heap.size := (by have hzz := hb3.size; (try simp at hzz); omega); have Lw3 := Locals.call hb3 (L := [(⟨w.heap.size, 0, none⟩, .int .i64 k), (⟨w.heap.size, 1, none⟩, .int .i64 n), (⟨w.heap.size, 2, none⟩, .int .i64 cn), (⟨w.heap.size, 3, none⟩, .int .i64 cd), (⟨w.heap.size + 1, 0, none⟩, .int .i64 b0), (⟨w.heap.size + 1, 1, none⟩, .int .i64 b1), (⟨w.heap.size + 1, 2, none⟩, .slice A2 n2 c2), (⟨w.heap.size + 1, 3, none⟩, .slice A3 n3 c3), (⟨w.heap.size + 1, 4, none⟩, .int .i64 b4), (⟨w.heap.size + 1, 5, none⟩, .int .i64 b5), (⟨w.heap.size + 1, 6, none⟩, .slice A6 n6 c6), (⟨w.heap.size + 1, 7, none⟩, .slice A7 n7 c7), (⟨w.heap.size + 1, 8, none⟩, .int .i64 b8), (⟨w.heap.size + 1 + 1, 0, none⟩, .int .i64 ln), (⟨w.heap.size + 1 + 1, 1, none⟩, .int .i64 ld), (⟨w.heap.size + 1 + 1, 2, none⟩, .slice LA nl cl)]) (by simp only [Locals]; repeat' (first | exact trivial | apply And.intro) <;> go_simp); obtain ⟨⟨cw3_0, fw3_0⟩, ⟨cw3_1, fw3_1⟩, ⟨cw3_2, fw3_2⟩, ⟨cw3_3, fw3_3⟩, ⟨cw3_4, fw3_4⟩, ⟨cw3_5, fw3_5⟩, ⟨cw3_6, fw3_6⟩, ⟨cw3_7, fw3_7⟩, ⟨cw3_8, fw3_8⟩, ⟨cw3_9, fw3_9⟩, ⟨cw3_10, fw3_10⟩, ⟨cw3_11, fw3_11⟩, ⟨cw3_12, fw3_12⟩, ⟨cw3_13, fw3_13⟩, ⟨cw3_14, fw3_14⟩, ⟨cw3_15, fw3_15⟩, -⟩ := Lw3
    go_wp2_with fail
    go_ret2
    exact ⟨by simp, (by (simp only [Locals]; repeat' (first | exact trivial | apply And.intro) <;> go_simp)), (by repeat' (first | with_reducible exact bl_refl _ | with_reducible apply bl_alloc | with_reducible apply bl_drewN | with_reducible apply bl_drew | with_reducible apply bl_set | with_reducible refine bl_call (by assumption) ?_ | (simp; done) | (simp; omega) | omega))⟩
set_option maxHeartbeats 4000000 in
set_option maxRecDepth 20000 in
theorem askMay0_c (k n cn cd b0 b1 b4 b5 b8 ln ld : Int) (A2 A3 A6 A7 LA : Option Addr) (n2 c2 n3 c3 n6 c6 n7 c7 nl cl : Nat) (w : World)
    (hx : ∀ W, Calls Try.prog 70 #[.agg #[.int .i64 k, .int .i64 n, .int .i64 cn, .int .i64 cd]] W fun e w' => e = .returned (.bool false) ∧ Below W.heap.size W w') :
    Calls Try.prog 17 #[.agg #[.int .i64 k, .int .i64 n, .int .i64 cn, .int .i64 cd], .agg #[.int .i64 b0, .int .i64 b1, .slice A2 n2 c2, .slice A3 n3 c3, .int .i64 b4, .int .i64 b5, .slice A6 n6 c6, .slice A7 n7 c7, .int .i64 b8], .agg #[.int .i64 ln, .int .i64 ld, .slice LA nl cl]] w fun e w' => e = .returned (.bool false) ∧ Below w.heap.size w w' := by
  have hu1 := Try.underlying54
  have hu2 := Try.underlying29
  have hu3 := Try.underlying33
  have hask : ∀ X : World, Calls Try.prog 44 #[.agg #[.int .i64 k, .int .i64 n, .int .i64 cn, .int .i64 cd], .agg #[.int .i64 b0, .int .i64 b1, .slice A2 n2 c2, .slice A3 n3 c3, .int .i64 b4, .int .i64 b5, .slice A6 n6 c6, .slice A7 n7 c7, .int .i64 b8], .agg #[.int .i64 ln, .int .i64 ld, .slice LA nl cl]] X fun e w' =>
      e = .returned (.tuple #[.func (.func 68) #[] #[.pointer (some ⟨X.heap.size + 1, 0, none⟩), .pointer (some ⟨X.heap.size, 0, none⟩), .pointer (some ⟨X.heap.size + 1 + 1, 0, none⟩)], .bool false]) ∧ Below X.heap.size X w' := fun w => by
    have HX := Lib.hid hx
    clear hx
    go_enter Try.func44, Try.ntmps44
    go_wp2_with fail
    refine (HX.out _).mono ?_; rintro e w1 ⟨rfl, hb1⟩; have hzw1_0 : w.heap.size < w1.heap.size := (by have hzz := hb1.size; (try simp at hzz); omega); have hzw1_1 : w.heap.size + 1 < w1.heap.size := (by have hzz := hb1.size; (try simp at hzz); omega); have hzw1_2 : w.heap.size + 1 + 1 < w1.heap.size := (by have hzz := hb1.size; (try simp at hzz); omega); have Lw1 := Locals.call hb1 (L := [(⟨w.heap.size, 0, none⟩, .int .i64 k), (⟨w.heap.size, 1, none⟩, .int .i64 n), (⟨w.heap.size, 2, none⟩, .int .i64 cn), (⟨w.heap.size, 3, none⟩, .int .i64 cd), (⟨w.heap.size + 1, 0, none⟩, .int .i64 b0), (⟨w.heap.size + 1, 1, none⟩, .int .i64 b1), (⟨w.heap.size + 1, 2, none⟩, .slice A2 n2 c2), (⟨w.heap.size + 1, 3, none⟩, .slice A3 n3 c3), (⟨w.heap.size + 1, 4, none⟩, .int .i64 b4), (⟨w.heap.size + 1, 5, none⟩, .int .i64 b5), (⟨w.heap.size + 1, 6, none⟩, .slice A6 n6 c6), (⟨w.heap.size + 1, 7, none⟩, .slice A7 n7 c7), (⟨w.heap.size + 1, 8, none⟩, .int .i64 b8), (⟨w.heap.size + 1 + 1, 0, none⟩, .int .i64 ln), (⟨w.heap.size + 1 + 1, 1, none⟩, .int .i64 ld), (⟨w.heap.size + 1 + 1, 2, none⟩, .slice LA nl cl)]) (by simp only [Locals]; repeat' (first | exact trivial | apply And.intro) <;> go_simp); obtain ⟨⟨cw1_0, fw1_0⟩, ⟨cw1_1, fw1_1⟩, ⟨cw1_2, fw1_2⟩, ⟨cw1_3, fw1_3⟩, ⟨cw1_4, fw1_4⟩, ⟨cw1_5, fw1_5⟩, ⟨cw1_6, fw1_6⟩, ⟨cw1_7, fw1_7⟩, ⟨cw1_8, fw1_8⟩, ⟨cw1_9, fw1_9⟩, ⟨cw1_10, fw1_10⟩, ⟨cw1_11, fw1_11⟩, ⟨cw1_12, fw1_12⟩, ⟨cw1_13, fw1_13⟩, ⟨cw1_14, fw1_14⟩, ⟨cw1_15, fw1_15⟩, -⟩ := Lw1
    go_wp2_with fail
    go_ret2
    exact ⟨rfl, (by repeat' (first | with_reducible exact bl_refl _ | with_reducible apply bl_alloc | with_reducible apply bl_drewN | with_reducible apply bl_drew | with_reducible apply bl_set | with_reducible refine bl_call (by assumption) ?_ | (simp; done) | (simp; omega) | omega))⟩
  have HA := Lib.hid hask
  clear hask hx
  go_enter Try.func17, Try.ntmps17
  go_wp2_with fail
  refine (HA.out _).mono ?_; rintro e w1 ⟨rfl, hb1⟩
  go_wp2_with fail
  go_ret
  exact ⟨rfl, (by repeat' (first | with_reducible exact bl_refl _ | with_reducible apply bl_alloc | with_reducible apply bl_drewN | with_reducible apply bl_drew | with_reducible apply bl_set | with_reducible refine bl_call (by assumption) ?_ | (simp; done) | (simp; omega) | omega))⟩
set_option maxHeartbeats 4000000 in
set_option maxRecDepth 20000 in
theorem asked_c (k n cn cd b0 b1 b4 b5 b8 ln ld : Int) (A2 A3 A6 A7 LA : Option Addr) (n2 c2 n3 c3 n6 c6 n7 c7 nl cl : Nat) (u : Bool) (B0 B1 B2 : Nat) (W : World) (hL : Locals W [(⟨B0, 0, none⟩, .int .i64 k), (⟨B0, 1, none⟩, .int .i64 n), (⟨B0, 2, none⟩, .int .i64 cn), (⟨B0, 3, none⟩, .int .i64 cd), (⟨B1, 0, none⟩, .int .i64 b0), (⟨B1, 1, none⟩, .int .i64 b1), (⟨B1, 2, none⟩, .slice A2 n2 c2), (⟨B1, 3, none⟩, .slice A3 n3 c3), (⟨B1, 4, none⟩, .int .i64 b4), (⟨B1, 5, none⟩, .int .i64 b5), (⟨B1, 6, none⟩, .slice A6 n6 c6), (⟨B1, 7, none⟩, .slice A7 n7 c7), (⟨B1, 8, none⟩, .int .i64 b8), (⟨B2, 0, none⟩, .int .i64 ln), (⟨B2, 1, none⟩, .int .i64 ld), (⟨B2, 2, none⟩, .slice LA nl cl)])
    (hw : Calls Try.prog 69 #[.agg #[.int .i64 ln, .int .i64 ld, .slice LA nl cl], .agg #[.int .i64 cn, .int .i64 cd]] W fun e w' => e = .returned (.bool u) ∧ Below W.heap.size W w') :
    Calls Try.prog 68 #[.pointer (some ⟨B1, 0, none⟩), .pointer (some ⟨B0, 0, none⟩), .pointer (some ⟨B2, 0, none⟩)] W fun e w' =>
      e = .returned (.bool (decide (b1 = k) && (decide ((n3 : Int) ≥ n) && (decide ((n3 : Int) ≥ b8) && u)))) ∧ Below W.heap.size W w' := by
  have hu1 := Try.underlying54
  have hu2 := Try.underlying29
  have hu3 := Try.underlying33
  have hu4 := Try.underlying27
  simp only [Locals] at hL
  obtain ⟨⟨l0, g0⟩, ⟨l1, g1⟩, ⟨l2, g2⟩, ⟨l3, g3⟩, ⟨l4, g4⟩, ⟨l5, g5⟩, ⟨l6, g6⟩, ⟨l7, g7⟩, ⟨l8, g8⟩, ⟨l9, g9⟩, ⟨l10, g10⟩, ⟨l11, g11⟩, ⟨l12, g12⟩, ⟨l13, g13⟩, ⟨l14, g14⟩, ⟨l15, g15⟩, -⟩ := hL
  have HW := Lib.hid hw
  clear hw
  by_cases h1 : b1 = k
  · have e1 : (b1 == k) = true := beq_iff_eq.2 h1
    have d1 : decide (b1 = k) = true := decide_eq_true h1
    have D1 := Lib.hid d1
    clear h1 d1
    by_cases h2 : n ≤ (n3 : Int)
    · by_cases h3 : b8 ≤ (n3 : Int)
      · go_enter Try.func68, Try.ntmps68
        go_wp2_with fail
        refine HW.out.mono ?_; rintro e w1 ⟨rfl, hb1⟩
        go_wp2_with fail
        go_ret
        exact ⟨ret_b (by rw [D1.out]; simp [h2, h3]), hb1⟩
      · go_enter Try.func68, Try.ntmps68
        go_wp2_with fail
        go_ret
        exact ⟨ret_b (by rw [D1.out]; simp; omega), (by repeat' (first | with_reducible exact bl_refl _ | with_reducible apply bl_alloc | with_reducible apply bl_drewN | with_reducible apply bl_drew | with_reducible apply bl_set | with_reducible refine bl_call (by assumption) ?_ | (simp; done) | (simp; omega) | omega))⟩
    · go_enter Try.func68, Try.ntmps68
      go_wp2_with fail
      go_ret
      exact ⟨ret_b (by rw [D1.out]; simp; omega), (by repeat' (first | with_reducible exact bl_refl _ | with_reducible apply bl_alloc | with_reducible apply bl_drewN | with_reducible apply bl_drew | with_reducible apply bl_set | with_reducible refine bl_call (by assumption) ?_ | (simp; done) | (simp; omega) | omega))⟩
  · have e1 : (b1 == k) = false := beq_eq_false_iff_ne.2 h1
    have d1 : decide (b1 = k) = false := decide_eq_false h1
    have D1 := Lib.hid d1
    clear h1 d1
    go_enter Try.func68, Try.ntmps68
    go_wp2_with fail
    go_ret
    exact ⟨ret_b (by rw [D1.out]; simp), (by repeat' (first | with_reducible exact bl_refl _ | with_reducible apply bl_alloc | with_reducible apply bl_drewN | with_reducible apply bl_drew | with_reducible apply bl_set | with_reducible refine bl_call (by assumption) ?_ | (simp; done) | (simp; omega) | omega))⟩
set_option maxHeartbeats 4000000 in
set_option maxRecDepth 20000 in
theorem askMay_c (k n cn cd b0 b1 b4 b5 b8 ln ld : Int) (A2 A3 A6 A7 LA : Option Addr) (n2 c2 n3 c3 n6 c6 n7 c7 nl cl : Nat) (x y z u : Bool) (w : World)
    (hx : ∀ W, Calls Try.prog 70 #[.agg #[.int .i64 k, .int .i64 n, .int .i64 cn, .int .i64 cd]] W fun e w' => e = .returned (.bool x) ∧ Below W.heap.size W w')
    (hy : ∀ W, Below w.heap.size w W → Calls Try.prog 71 #[.agg #[.int .i64 b0, .int .i64 b1, .slice A2 n2 c2, .slice A3 n3 c3, .int .i64 b4, .int .i64 b5, .slice A6 n6 c6, .slice A7 n7 c7, .int .i64 b8]] W fun e w' => e = .returned (.bool y) ∧ Below W.heap.size W w')
    (hz : ∀ W, Below w.heap.size w W → Calls Try.prog 72 #[.agg #[.int .i64 ln, .int .i64 ld, .slice LA nl cl]] W fun e w' => e = .returned (.bool z) ∧ Below W.heap.size W w')
    (hw : ∀ W, Below w.heap.size w W → Calls Try.prog 69 #[.agg #[.int .i64 ln, .int .i64 ld, .slice LA nl cl], .agg #[.int .i64 cn, .int .i64 cd]] W fun e w' => e = .returned (.bool u) ∧ Below W.heap.size W w') :
    Calls Try.prog 17 #[.agg #[.int .i64 k, .int .i64 n, .int .i64 cn, .int .i64 cd], .agg #[.int .i64 b0, .int .i64 b1, .slice A2 n2 c2, .slice A3 n3 c3, .int .i64 b4, .int .i64 b5, .slice A6 n6 c6, .slice A7 n7 c7, .int .i64 b8], .agg #[.int .i64 ln, .int .i64 ld, .slice LA nl cl]] w fun e w' =>
      e = .returned (.bool (x && (y && z) && (decide (b1 = k) && (decide ((n3 : Int) ≥ n) && (decide ((n3 : Int) ≥ b8) && u))))) ∧ Below w.heap.size w w' := by
  have hbox : Below w.heap.size w (((w.alloc (.cells #[.int .i64 k, .int .i64 n, .int .i64 cn, .int .i64 cd] 54)).alloc (.cells #[.int .i64 b0, .int .i64 b1, .slice A2 n2 c2, .slice A3 n3 c3, .int .i64 b4, .int .i64 b5, .slice A6 n6 c6, .slice A7 n7 c7, .int .i64 b8] 29)).alloc (.cells #[.int .i64 ln, .int .i64 ld, .slice LA nl cl] 33)) := (by repeat' (first | with_reducible exact bl_refl _ | with_reducible apply bl_alloc | with_reducible apply bl_drewN | with_reducible apply bl_drew | with_reducible apply bl_set | with_reducible refine bl_call (by assumption) ?_ | (simp; done) | (simp; omega) | omega))
  have hask := fun X (hX : Below w.heap.size w X) => asking_c k n cn cd b0 b1 b4 b5 b8 ln ld A2 A3 A6 A7 LA n2 c2 n3 c3 n6 c6 n7 c7 nl cl x y z X hx (fun W hW => hy W (bl_call hW hX)) (fun W hW => hz W (bl_call hW hX))
  have hcl := fun B0 B1 B2 W hL hX => asked_c k n cn cd b0 b1 b4 b5 b8 ln ld A2 A3 A6 A7 LA n2 c2 n3 c3 n6 c6 n7 c7 nl cl u B0 B1 B2 W hL (hw W hX)
  have hcall : ∀ args W, (callFunc 68 args).run Try.prog W = .ok (.enter 68 args) W := fun args W => Try.call68 args W
  have HA := Lib.hid hask
  have HC := Lib.hid hcl
  have HB := Lib.hid hbox
  clear hx hy hz hw hask hcl hbox
  generalize hp : (decide (b1 = k) && (decide ((n3 : Int) ≥ n) && (decide ((n3 : Int) ≥ b8) && u))) = p at HC ⊢
  clear hp
  cases hq : (x && (y && z))
  · rw [hq] at HA
    go_enter Try.func17, Try.ntmps17
    go_wp2_with fail
    refine (HA.out _ (by repeat' (first | with_reducible exact bl_refl _ | with_reducible apply bl_alloc | with_reducible apply bl_drewN | with_reducible apply bl_drew | with_reducible apply bl_set | with_reducible refine bl_call (by assumption) ?_ | (simp; done) | (simp; omega) | omega))).mono ?_; rintro e w1 ⟨rfl, -, hb1⟩
    go_wp2_with fail
    go_ret
    exact ⟨ret_b (by simp), (by repeat' (first | with_reducible exact bl_refl _ | with_reducible apply bl_alloc | with_reducible apply bl_drewN | with_reducible apply bl_drew | with_reducible apply bl_set | with_reducible refine bl_call (by assumption) ?_ | (simp; done) | (simp; omega) | omega))⟩
  · rw [hq] at HA
    go_enter Try.func17, Try.ntmps17
    go_wp2_with fail
    refine (HA.out _ (by repeat' (first | with_reducible exact bl_refl _ | with_reducible apply bl_alloc | with_reducible apply bl_drewN | with_reducible apply bl_drew | with_reducible apply bl_set | with_reducible refine bl_call (by assumption) ?_ | (simp; done) | (simp; omega) | omega))).mono ?_; rintro e w1 ⟨rfl, hL, hb1⟩
    simp only [World.size_alloc] at hL
    have HL := Lib.hid hL
    clear hL
    go_wp2_with fail
    refine (HC.out _ _ _ _ ?side1 ?side2).mono ?_
    case side1 => exact HL.out
    case side2 => exact (by repeat' (first | with_reducible exact bl_refl _ | with_reducible apply bl_alloc | with_reducible apply bl_drewN | with_reducible apply bl_drew | with_reducible apply bl_set | with_reducible refine bl_call (by assumption) ?_ | (simp; done) | (simp; omega) | omega))
    rintro e w2 ⟨rfl, hb2⟩
    go_wp2_with fail
    go_ret
    exact ⟨ret_b (by simp), (by repeat' (first | with_reducible exact bl_refl _ | with_reducible apply bl_alloc | with_reducible apply bl_drewN | with_reducible apply bl_drew | with_reducible apply bl_set | with_reducible refine bl_call (by assumption) ?_ | (simp; done) | (simp; omega) | omega))⟩
def impl_AskMay.f (a0_0 : Int) (a0_1 : Int) (a0_2 : Int) (a0_3 : Int) (a1_0 : Int) (a1_1 : Int) (l1_2 : List Int) (l1_3 : List Int) (a1_4 : Int) (a1_5 : Int) (l1_6 : List Int) (l1_7 : List Int) (a1_8 : Int) (a2_0 : Int) (a2_1 : Int) (l2_2 : List (S30)) : Option (Bool) := (impl_AskOk.f a0_0 a0_1 a0_2 a0_3).bind fun x => if x = true then ((impl_BatchOk.f a1_0 a1_1 l1_2 l1_3 a1_4 a1_5 l1_6 l1_7 a1_8).bind fun y => if y = true then (if ledOk ⟨a2_0, a2_1⟩ (l2_2.map fun x => (⟨x.f0, x.f1⟩ : Fr)) = true then some (decide (a1_1 = a0_0) && (decide ((l1_3.length : Int) ≥ a0_1) && (decide ((l1_3.length : Int) ≥ a1_8) && (payL ⟨⟨a2_0, a2_1⟩, l2_2.map fun x => (⟨x.f0, x.f1⟩ : Fr)⟩ ⟨a0_2, a0_3⟩).2))) else some false) else some false) else some false
theorem impl_AskMay.calls (a0_0 : Int) (a0_1 : Int) (a0_2 : Int) (a0_3 : Int) (a1_0 : Int) (a1_1 : Int) (A1_2 : Option Addr) (c1_2 : Nat) (l1_2 : List Int) (A1_3 : Option Addr) (c1_3 : Nat) (l1_3 : List Int) (a1_4 : Int) (a1_5 : Int) (A1_6 : Option Addr) (c1_6 : Nat) (l1_6 : List Int) (A1_7 : Option Addr) (c1_7 : Nat) (l1_7 : List Int) (a1_8 : Int) (a2_0 : Int) (a2_1 : Int) (A2_2 : Option Addr) (c2_2 : Nat) (l2_2 : List (S30)) (r : Bool) (w : World) (hr1_2 : Kd.C (Kd.int .i64) w A1_2 l1_2.length l1_2) (hc1_2 : l1_2.length ≤ c1_2) (hr1_3 : Kd.C (Kd.int .i64) w A1_3 l1_3.length l1_3) (hc1_3 : l1_3.length ≤ c1_3) (hr1_6 : Kd.C (Kd.int .i64) w A1_6 l1_6.length l1_6) (hc1_6 : l1_6.length ≤ c1_6) (hr1_7 : Kd.C (Kd.int .i64) w A1_7 l1_7.length l1_7) (hc1_7 : l1_7.length ≤ c1_7) (hr2_2 : Kd.C k30 w A2_2 l2_2.length l2_2) (hc2_2 : l2_2.length ≤ c2_2) (h : impl_AskMay.f a0_0 a0_1 a0_2 a0_3 a1_0 a1_1 l1_2 l1_3 a1_4 a1_5 l1_6 l1_7 a1_8 a2_0 a2_1 l2_2 = some r) :
    Calls Try.prog 17 #[.agg #[.int .i64 a0_0, .int .i64 a0_1, .int .i64 a0_2, .int .i64 a0_3], .agg #[.int .i64 a1_0, .int .i64 a1_1, .slice A1_2 l1_2.length c1_2, .slice A1_3 l1_3.length c1_3, .int .i64 a1_4, .int .i64 a1_5, .slice A1_6 l1_6.length c1_6, .slice A1_7 l1_7.length c1_7, .int .i64 a1_8], .agg #[.int .i64 a2_0, .int .i64 a2_1, .slice A2_2 l2_2.length c2_2]] w fun e w' => e = .returned (.bool r) ∧ Below w.heap.size w w' := by
  unfold impl_AskMay.f at h
  obtain ⟨x, hx, h⟩ := Option.bind_eq_some_iff.1 h
  have hX := fun W => impl_AskOk.calls a0_0 a0_1 a0_2 a0_3 x W hx
  have hC : ∀ W, Below w.heap.size w W → FracsAt W (.slice A2_2 l2_2.length c2_2) (l2_2.map fun x => (⟨x.f0, x.f1⟩ : Fr)) := fun W hW => (FracsAt.ofC hr2_2 hc2_2).below hW
  have hZ := fun W (hW : Below w.heap.size w W) => iLedgerOk_c ⟨a2_0, a2_1⟩ _ _ W (hC W hW)
  have hU := fun W (hW : Below w.heap.size w W) => iLedgerCan_c a2_0 a2_1 _ _ a0_2 a0_3 W (hC W hW)
  cases x with
  | false =>
    rw [if_neg (by decide)] at h
    obtain rfl := Option.some.inj h
    refine (askMay0_c a0_0 a0_1 a0_2 a0_3 a1_0 a1_1 a1_4 a1_5 a1_8 a2_0 a2_1 A1_2 A1_3 A1_6 A1_7 A2_2 l1_2.length c1_2 l1_3.length c1_3 l1_6.length c1_6 l1_7.length c1_7 l2_2.length c2_2 w hX).mono fun e w' hp => ?_
    exact hp
  | true =>
    rw [if_pos rfl] at h
    obtain ⟨y, hy, h⟩ := Option.bind_eq_some_iff.1 h
    have hY := fun W (hW : Below w.heap.size w W) => impl_BatchOk.calls a1_0 a1_1 A1_2 c1_2 l1_2 A1_3 c1_3 l1_3 a1_4 a1_5 A1_6 c1_6 l1_6 A1_7 c1_7 l1_7 a1_8 y W (Kd.C_below hr1_2 hW) hc1_2 (Kd.C_below hr1_3 hW) hc1_3 (Kd.C_below hr1_6 hW) hc1_6 (Kd.C_below hr1_7 hW) hc1_7 hy
    refine (askMay_c a0_0 a0_1 a0_2 a0_3 a1_0 a1_1 a1_4 a1_5 a1_8 a2_0 a2_1 A1_2 A1_3 A1_6 A1_7 A2_2 l1_2.length c1_2 l1_3.length c1_3 l1_6.length c1_6 l1_7.length c1_7 l2_2.length c2_2 true y _ _ w hX hY hZ hU).mono fun e w' hp => ?_
    obtain ⟨rfl, hb⟩ := hp
    refine ⟨ret_b ?_, hb⟩
    cases y with
    | false =>
      rw [if_neg (by decide)] at h
      obtain rfl := Option.some.inj h
      simp
    | true =>
      rw [if_pos rfl] at h
      by_cases hz : ledOk ⟨a2_0, a2_1⟩ (l2_2.map fun x => (⟨x.f0, x.f1⟩ : Fr)) = true
      · rw [if_pos hz] at h
        obtain rfl := Option.some.inj h
        rw [hz]; simp
      · rw [if_neg hz] at h
        obtain rfl := Option.some.inj h
        rw [Bool.eq_false_iff.2 hz]; simp
end Go.Proofs.Ytnffoddeppimkaa.P
