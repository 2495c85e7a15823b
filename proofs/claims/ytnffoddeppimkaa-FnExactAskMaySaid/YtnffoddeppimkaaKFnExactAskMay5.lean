/- Part 5 of the proof of laws.FnExactAskMay. -/
import Derived.Test.YtnffoddeppimkaaKFnExactAskMay0
import Derived.Test.YtnffoddeppimkaaKFnExactAskMay1
import Derived.Test.YtnffoddeppimkaaKFnExactAskMay2
import Derived.Test.YtnffoddeppimkaaKFnExactAskMay3
import Derived.Test.YtnffoddeppimkaaKFnExactAskMay4
namespace Go.Proofs.Ytnffoddeppimkaa.P
open Go.RowKit Go.Proofs.YtnffoddeppimkaaW.PrintWords Go.Proofs.YtnffoddeppimkaaW.PrintLast Go.Proofs.YtnffoddeppimkaaW.PrintMore
attribute [local go_sem] max2_int min2_int max_two min_two max_three min_three max_four min_four
set_option linter.unusedVariables false
set_option linter.unusedSimpArgs false
def laws_FnExactAskMay.f (a0_0 : Int) (a0_1 : Int) (a0_2 : Int) (a0_3 : Int) (a1_0 : Int) (a1_1 : Int) (l1_2 : List Int) (l1_3 : List Int) (a1_4 : Int) (a1_5 : Int) (l1_6 : List Int) (l1_7 : List Int) (a1_8 : Int) (a2_0 : Int) (a2_1 : Int) (l2_2 : List (S23)) : Option (Bool) := (laws_szBatch.f a1_0 a1_1 l1_2 l1_3 a1_4 a1_5 l1_6 l1_7 a1_8 1048576).bind fun t545 => (if t545 < 0 then (some true) else ((laws_szLedger.f a2_0 a2_1 l2_2 t545).bind fun t546 => (if t546 < 0 then (some true) else ((laws_toAsk.f a0_0 a0_1 a0_2 a0_3).bind fun bt547 => ((laws_toBatch.f a1_0 a1_1 l1_2 l1_3 a1_4 a1_5 l1_6 l1_7 a1_8).bind fun bt551 => ((laws_toLedger.f a2_0 a2_1 l2_2).bind fun bt568 => ((spec_AskMay.f bt547.1 bt547.2.1 bt547.2.2.1 bt547.2.2.2 bt551.1 bt551.2.1 bt551.2.2.1 bt551.2.2.2.1 bt551.2.2.2.2.1 bt551.2.2.2.2.2.1 bt551.2.2.2.2.2.2.1 bt551.2.2.2.2.2.2.2.1 bt551.2.2.2.2.2.2.2.2 bt568.1 bt568.2.1 bt568.2.2).bind fun t573 => ((laws_toBatch.f a1_0 a1_1 l1_2 l1_3 a1_4 a1_5 l1_6 l1_7 a1_8).bind fun bt574 => ((laws_toLedger.f a2_0 a2_1 l2_2).bind fun bt592 => ((laws_toAsk.f a0_0 a0_1 a0_2 a0_3).bind fun bt598 => ((impl_AskMay.f bt598.1 bt598.2.1 bt598.2.2.1 bt598.2.2.2 bt574.1 bt574.2.1 bt574.2.2.1 bt574.2.2.2.1 bt574.2.2.2.2.1 bt574.2.2.2.2.2.1 bt574.2.2.2.2.2.2.1 bt574.2.2.2.2.2.2.2.1 bt574.2.2.2.2.2.2.2.2 bt592.1 bt592.2.1 bt592.2.2).bind fun t602 => (if (t602 != t573) = true then (none) else ((laws_toBatch.f a1_0 a1_1 l1_2 l1_3 a1_4 a1_5 l1_6 l1_7 a1_8).bind fun bt603 => ((laws_eqBatch.f bt574.1 bt574.2.1 bt574.2.2.1 bt574.2.2.2.1 bt574.2.2.2.2.1 bt574.2.2.2.2.2.1 bt574.2.2.2.2.2.2.1 bt574.2.2.2.2.2.2.2.1 bt574.2.2.2.2.2.2.2.2 bt603.1 bt603.2.1 bt603.2.2.1 bt603.2.2.2.1 bt603.2.2.2.2.1 bt603.2.2.2.2.2.1 bt603.2.2.2.2.2.2.1 bt603.2.2.2.2.2.2.2.1 bt603.2.2.2.2.2.2.2.2).bind fun t620 => (if t620 = true then ((laws_toLedger.f a2_0 a2_1 l2_2).bind fun bt621 => ((laws_eqLedger.f bt592.1 bt592.2.1 bt592.2.2 bt621.1 bt621.2.1 bt621.2.2).bind fun t626 => (if t626 = true then (some true) else (none)))) else (none))))))))))))))))
def laws_FnExactAskMay.T8 : Bool × List (List Nat × List Nat) := (true, [([], []), ([0], [0]), ([], []), ([2, 1], [2]), ([], []), ([4, 3], [4]), ([1, 3, 5, 5], [1, 3, 5]), ([6, 6, 0, 1, 2, 3, 4, 5, 6], [6])])
def laws_FnExactAskMay.B8 : List Nat := [0, 1, 0, 7, 0, 31, 63, 127]
theorem laws_FnExactAskMay.tab8 : rtab .any (opsOf Try.f4 8) = laws_FnExactAskMay.T8 := by kernel_rfl
theorem laws_FnExactAskMay.bits8 : waitsOk laws_FnExactAskMay.T8.2 laws_FnExactAskMay.B8 = true := by kernel_rfl
set_option maxHeartbeats 8000000 in
set_option maxRecDepth 100000 in
theorem laws_FnExactAskMay.calls (a0_0 : Int) (a0_1 : Int) (a0_2 : Int) (a0_3 : Int) (a1_0 : Int) (a1_1 : Int) (A1_2 : Option Addr) (c1_2 : Nat) (l1_2 : List Int) (A1_3 : Option Addr) (c1_3 : Nat) (l1_3 : List Int) (a1_4 : Int) (a1_5 : Int) (A1_6 : Option Addr) (c1_6 : Nat) (l1_6 : List Int) (A1_7 : Option Addr) (c1_7 : Nat) (l1_7 : List Int) (a1_8 : Int) (a2_0 : Int) (a2_1 : Int) (A2_2 : Option Addr) (c2_2 : Nat) (l2_2 : List (S23)) (r : Bool) (w : World) (hr1_2 : Kd.C (Kd.int .i64) w A1_2 l1_2.length l1_2) (hc1_2 : l1_2.length ≤ c1_2) (hr1_3 : Kd.C (Kd.int .i64) w A1_3 l1_3.length l1_3) (hc1_3 : l1_3.length ≤ c1_3) (hr1_6 : Kd.C (Kd.int .i64) w A1_6 l1_6.length l1_6) (hc1_6 : l1_6.length ≤ c1_6) (hr1_7 : Kd.C (Kd.int .i64) w A1_7 l1_7.length l1_7) (hc1_7 : l1_7.length ≤ c1_7) (hr2_2 : Kd.C k23 w A2_2 l2_2.length l2_2) (hc2_2 : l2_2.length ≤ c2_2) (h : laws_FnExactAskMay.f a0_0 a0_1 a0_2 a0_3 a1_0 a1_1 l1_2 l1_3 a1_4 a1_5 l1_6 l1_7 a1_8 a2_0 a2_1 l2_2 = some r) :
    Calls Try.prog 4 #[.agg #[.int .i64 a0_0, .int .i64 a0_1, .int .i64 a0_2, .int .i64 a0_3], .agg #[.int .i64 a1_0, .int .i64 a1_1, .slice A1_2 l1_2.length c1_2, .slice A1_3 l1_3.length c1_3, .int .i64 a1_4, .int .i64 a1_5, .slice A1_6 l1_6.length c1_6, .slice A1_7 l1_7.length c1_7, .int .i64 a1_8], .agg #[.int .i64 a2_0, .int .i64 a2_1, .slice A2_2 l2_2.length c2_2]] w fun e w' => e = .returned (.bool r) ∧ Below w.heap.size w w' := by
  have hu43 := Try.underlying43
  have hu46 := Try.underlying46
  have hu49 := Try.underlying49
  have hu29 := Try.underlying29
  have hu33 := Try.underlying33
  have HR1_2 := Aside0.mk hr1_2
  have HC1_2 := Aside0.mk hc1_2
  clear hr1_2 hc1_2
  have HR1_3 := Aside0.mk hr1_3
  have HC1_3 := Aside0.mk hc1_3
  clear hr1_3 hc1_3
  have HR1_6 := Aside0.mk hr1_6
  have HC1_6 := Aside0.mk hc1_6
  clear hr1_6 hc1_6
  have HR1_7 := Aside0.mk hr1_7
  have HC1_7 := Aside0.mk hc1_7
  clear hr1_7 hc1_7
  have HR2_2 := Aside0.mk hr2_2
  have HC2_2 := Aside0.mk hc2_2
  clear hr2_2 hc2_2
  have HB := Aside0.mk (Below.refl w.heap.size w)
  have H : ((laws_szBatch.f a1_0 a1_1 l1_2 l1_3 a1_4 a1_5 l1_6 l1_7 a1_8 1048576).bind fun t545 => (if t545 < 0 then (some true) else ((laws_szLedger.f a2_0 a2_1 l2_2 t545).bind fun t546 => (if t546 < 0 then (some true) else ((laws_toAsk.f a0_0 a0_1 a0_2 a0_3).bind fun bt547 => ((laws_toBatch.f a1_0 a1_1 l1_2 l1_3 a1_4 a1_5 l1_6 l1_7 a1_8).bind fun bt551 => ((laws_toLedger.f a2_0 a2_1 l2_2).bind fun bt568 => ((spec_AskMay.f bt547.1 bt547.2.1 bt547.2.2.1 bt547.2.2.2 bt551.1 bt551.2.1 bt551.2.2.1 bt551.2.2.2.1 bt551.2.2.2.2.1 bt551.2.2.2.2.2.1 bt551.2.2.2.2.2.2.1 bt551.2.2.2.2.2.2.2.1 bt551.2.2.2.2.2.2.2.2 bt568.1 bt568.2.1 bt568.2.2).bind fun t573 => ((laws_toBatch.f a1_0 a1_1 l1_2 l1_3 a1_4 a1_5 l1_6 l1_7 a1_8).bind fun bt574 => ((laws_toLedger.f a2_0 a2_1 l2_2).bind fun bt592 => ((laws_toAsk.f a0_0 a0_1 a0_2 a0_3).bind fun bt598 => ((impl_AskMay.f bt598.1 bt598.2.1 bt598.2.2.1 bt598.2.2.2 bt574.1 bt574.2.1 bt574.2.2.1 bt574.2.2.2.1 bt574.2.2.2.2.1 bt574.2.2.2.2.2.1 bt574.2.2.2.2.2.2.1 bt574.2.2.2.2.2.2.2.1 bt574.2.2.2.2.2.2.2.2 bt592.1 bt592.2.1 bt592.2.2).bind fun t602 => (if (t602 != t573) = true then (none) else ((laws_toBatch.f a1_0 a1_1 l1_2 l1_3 a1_4 a1_5 l1_6 l1_7 a1_8).bind fun bt603 => ((laws_eqBatch.f bt574.1 bt574.2.1 bt574.2.2.1 bt574.2.2.2.1 bt574.2.2.2.2.1 bt574.2.2.2.2.2.1 bt574.2.2.2.2.2.2.1 bt574.2.2.2.2.2.2.2.1 bt574.2.2.2.2.2.2.2.2 bt603.1 bt603.2.1 bt603.2.2.1 bt603.2.2.2.1 bt603.2.2.2.2.1 bt603.2.2.2.2.2.1 bt603.2.2.2.2.2.2.1 bt603.2.2.2.2.2.2.2.1 bt603.2.2.2.2.2.2.2.2).bind fun t620 => (if t620 = true then ((laws_toLedger.f a2_0 a2_1 l2_2).bind fun bt621 => ((laws_eqLedger.f bt592.1 bt592.2.1 bt592.2.2 bt621.1 bt621.2.1 bt621.2.2).bind fun t626 => (if t626 = true then (some true) else (none)))) else (none))))))))))))))))) = some r := h
  clear h
  replace H := Option.bind_eq_some_iff.mp H
  obtain ⟨t545, A40, H⟩ := H
  replace H : (if t545 < 0 then (some true) else ((laws_szLedger.f a2_0 a2_1 l2_2 t545).bind fun t546 => (if t546 < 0 then (some true) else ((laws_toAsk.f a0_0 a0_1 a0_2 a0_3).bind fun bt547 => ((laws_toBatch.f a1_0 a1_1 l1_2 l1_3 a1_4 a1_5 l1_6 l1_7 a1_8).bind fun bt551 => ((laws_toLedger.f a2_0 a2_1 l2_2).bind fun bt568 => ((spec_AskMay.f bt547.1 bt547.2.1 bt547.2.2.1 bt547.2.2.2 bt551.1 bt551.2.1 bt551.2.2.1 bt551.2.2.2.1 bt551.2.2.2.2.1 bt551.2.2.2.2.2.1 bt551.2.2.2.2.2.2.1 bt551.2.2.2.2.2.2.2.1 bt551.2.2.2.2.2.2.2.2 bt568.1 bt568.2.1 bt568.2.2).bind fun t573 => ((laws_toBatch.f a1_0 a1_1 l1_2 l1_3 a1_4 a1_5 l1_6 l1_7 a1_8).bind fun bt574 => ((laws_toLedger.f a2_0 a2_1 l2_2).bind fun bt592 => ((laws_toAsk.f a0_0 a0_1 a0_2 a0_3).bind fun bt598 => ((impl_AskMay.f bt598.1 bt598.2.1 bt598.2.2.1 bt598.2.2.2 bt574.1 bt574.2.1 bt574.2.2.1 bt574.2.2.2.1 bt574.2.2.2.2.1 bt574.2.2.2.2.2.1 bt574.2.2.2.2.2.2.1 bt574.2.2.2.2.2.2.2.1 bt574.2.2.2.2.2.2.2.2 bt592.1 bt592.2.1 bt592.2.2).bind fun t602 => (if (t602 != t573) = true then (none) else ((laws_toBatch.f a1_0 a1_1 l1_2 l1_3 a1_4 a1_5 l1_6 l1_7 a1_8).bind fun bt603 => ((laws_eqBatch.f bt574.1 bt574.2.1 bt574.2.2.1 bt574.2.2.2.1 bt574.2.2.2.2.1 bt574.2.2.2.2.2.1 bt574.2.2.2.2.2.2.1 bt574.2.2.2.2.2.2.2.1 bt574.2.2.2.2.2.2.2.2 bt603.1 bt603.2.1 bt603.2.2.1 bt603.2.2.2.1 bt603.2.2.2.2.1 bt603.2.2.2.2.2.1 bt603.2.2.2.2.2.2.1 bt603.2.2.2.2.2.2.2.1 bt603.2.2.2.2.2.2.2.2).bind fun t620 => (if t620 = true then ((laws_toLedger.f a2_0 a2_1 l2_2).bind fun bt621 => ((laws_eqLedger.f bt592.1 bt592.2.1 bt592.2.2 bt621.1 bt621.2.1 bt621.2.2).bind fun t626 => (if t626 = true then (some true) else (none)))) else (none)))))))))))))))) = some r := H
  have A4 := Aside0.mk A40
  clear A40
  by_cases c5 : t545 < 0
  · rw [if_pos c5] at H
    have c5b0 : decide (t545 < 0) = true := decide_eq_true c5
    clear c5
    obtain rfl := Option.some.inj H
    go_enter Try.func4, Try.ntmps4
    go_wp2_with (first | ((with_reducible refine gate_dst (N := 3) rfl ?_); refine box_event ?hg (N := 3) ?hd (cs := #[.int .i64 a0_0, .int .i64 a0_1, .int .i64 a0_2, .int .i64 a0_3]) (t := 43) ?hr ?_; (case hd => rfl); (case hg => rfl); (case hr => first | (go_simp; done) | (go_simp; rfl)); intro gb542 hg w6 hbox hb; have n0_ := Aside0.mk (below_step (by repeat (first | (with_reducible first | exact HB.out | apply below_alloc | apply pw_below_drewN | apply below_drew1) | exact HB.out)) hb); have n1_ := Aside0.mk (hbox); have n2_ := Aside0.mk ((by rw [hg]; exact (below_size (by repeat (first | (with_reducible first | exact HB.out | apply below_alloc | apply pw_below_drewN | apply below_drew1) | exact HB.out))) : w.heap.size ≤ gb542)); have n3_ := Aside0.mk ((by rw [hg]; exact (below_size (by repeat (first | (with_reducible first | exact HB.out | apply below_alloc | apply pw_below_drewN | apply below_drew1) | exact HB.out))) : w.heap.size ≤ gb542)); clear HB; have HB := n0_; have BK542 := n1_; have GW542 := n2_; have GE542 := n3_; clear n0_ n1_ n2_ n3_; clear hb hbox hg) | ((with_reducible refine gate_dst (N := 4) rfl ?_); refine box_event ?hg (N := 4) ?hd (cs := #[.int .i64 a1_0, .int .i64 a1_1, .slice A1_2 l1_2.length c1_2, .slice A1_3 l1_3.length c1_3, .int .i64 a1_4, .int .i64 a1_5, .slice A1_6 l1_6.length c1_6, .slice A1_7 l1_7.length c1_7, .int .i64 a1_8]) (t := 46) ?hr ?_; (case hd => rfl); (case hg => rfl); (case hr => first | (go_simp; done) | (go_simp; rfl)); intro gb543 hg w7 hbox hb; have n0_ := Aside0.mk (blk_below (g := gb542) (o := .cells #[.int .i64 a0_0, .int .i64 a0_1, .int .i64 a0_2, .int .i64 a0_3] 43 (0, 0)) (by (with_reducible repeat (first | refine blk_drewN ?_ _ | refine blk_drew ?_ | refine blk_alloc ?_ _)); exact BK542.out) hb); have n1_ := Aside0.mk (below_step (by repeat (first | (with_reducible first | exact HB.out | apply below_alloc | apply pw_below_drewN | apply below_drew1 | refine below_set ?_ GE542.out) | exact HB.out)) hb); have n2_ := Aside0.mk (hbox); have n3_ := Aside0.mk ((by rw [hg]; exact (below_size (by repeat (first | (with_reducible first | exact HB.out | apply below_alloc | apply pw_below_drewN | apply below_drew1 | refine below_set ?_ GE542.out) | exact HB.out))) : w.heap.size ≤ gb543)); have n4_ := Aside0.mk ((by rw [hg]; exact (below_size (by repeat (first | (with_reducible first | exact HB.out | apply below_alloc | apply pw_below_drewN | apply below_drew1 | refine below_set ?_ GE542.out) | exact HB.out))) : w.heap.size ≤ gb543)); have n5_ := Aside0.mk ((by rw [hg]; exact Nat.ne_of_lt (blk_lt (g := gb542) (o := .cells #[.int .i64 a0_0, .int .i64 a0_1, .int .i64 a0_2, .int .i64 a0_3] 43 (0, 0)) (by (with_reducible repeat (first | refine blk_drewN ?_ _ | refine blk_drew ?_ | refine blk_alloc ?_ _)); exact BK542.out)) : gb542 ≠ gb543)); have n6_ := Aside0.mk ((by rw [hg]; exact Nat.ne_of_gt (blk_lt (g := gb542) (o := .cells #[.int .i64 a0_0, .int .i64 a0_1, .int .i64 a0_2, .int .i64 a0_3] 43 (0, 0)) (by (with_reducible repeat (first | refine blk_drewN ?_ _ | refine blk_drew ?_ | refine blk_alloc ?_ _)); exact BK542.out)) : gb543 ≠ gb542)); clear BK542; clear HB; have BK542 := n0_; have HB := n1_; have BK543 := n2_; have GW543 := n3_; have GE543 := n4_; have NB542_543 := n5_; have NB543_542 := n6_; clear n0_ n1_ n2_ n3_ n4_ n5_ n6_; clear hb hbox hg) | ((with_reducible refine gate_dst (N := 5) rfl ?_); refine box_event ?hg (N := 5) ?hd (cs := #[.int .i64 a2_0, .int .i64 a2_1, .slice A2_2 l2_2.length c2_2]) (t := 49) ?hr ?_; (case hd => rfl); (case hg => rfl); (case hr => first | (go_simp; done) | (go_simp; rfl)); intro gb544 hg w8 hbox hb; have n0_ := Aside0.mk (blk_below (g := gb542) (o := .cells #[.int .i64 a0_0, .int .i64 a0_1, .int .i64 a0_2, .int .i64 a0_3] 43 (0, 0)) (by (with_reducible repeat (first | refine blk_drewN ?_ _ | refine blk_drew ?_ | refine blk_alloc ?_ _)); exact BK542.out) hb); have n1_ := Aside0.mk (blk_below (g := gb543) (o := .cells #[.int .i64 a1_0, .int .i64 a1_1, .slice A1_2 l1_2.length c1_2, .slice A1_3 l1_3.length c1_3, .int .i64 a1_4, .int .i64 a1_5, .slice A1_6 l1_6.length c1_6, .slice A1_7 l1_7.length c1_7, .int .i64 a1_8] 46 (0, 0)) (by (with_reducible repeat (first | refine blk_drewN ?_ _ | refine blk_drew ?_ | refine blk_alloc ?_ _)); exact BK543.out) hb); have n2_ := Aside0.mk (below_step (by repeat (first | (with_reducible first | exact HB.out | apply below_alloc | apply pw_below_drewN | apply below_drew1 | refine below_set ?_ GE542.out | refine below_set ?_ GE543.out) | exact HB.out)) hb); have n3_ := Aside0.mk (hbox); have n4_ := Aside0.mk ((by rw [hg]; exact (below_size (by repeat (first | (with_reducible first | exact HB.out | apply below_alloc | apply pw_below_drewN | apply below_drew1 | refine below_set ?_ GE542.out | refine below_set ?_ GE543.out) | exact HB.out))) : w.heap.size ≤ gb544)); have n5_ := Aside0.mk ((by rw [hg]; exact (below_size (by repeat (first | (with_reducible first | exact HB.out | apply below_alloc | apply pw_below_drewN | apply below_drew1 | refine below_set ?_ GE542.out | refine below_set ?_ GE543.out) | exact HB.out))) : w.heap.size ≤ gb544)); have n6_ := Aside0.mk ((by rw [hg]; exact Nat.ne_of_lt (blk_lt (g := gb542) (o := .cells #[.int .i64 a0_0, .int .i64 a0_1, .int .i64 a0_2, .int .i64 a0_3] 43 (0, 0)) (by (with_reducible repeat (first | refine blk_drewN ?_ _ | refine blk_drew ?_ | refine blk_alloc ?_ _)); exact BK542.out)) : gb542 ≠ gb544)); have n7_ := Aside0.mk ((by rw [hg]; exact Nat.ne_of_gt (blk_lt (g := gb542) (o := .cells #[.int .i64 a0_0, .int .i64 a0_1, .int .i64 a0_2, .int .i64 a0_3] 43 (0, 0)) (by (with_reducible repeat (first | refine blk_drewN ?_ _ | refine blk_drew ?_ | refine blk_alloc ?_ _)); exact BK542.out)) : gb544 ≠ gb542)); have n8_ := Aside0.mk ((by rw [hg]; exact Nat.ne_of_lt (blk_lt (g := gb543) (o := .cells #[.int .i64 a1_0, .int .i64 a1_1, .slice A1_2 l1_2.length c1_2, .slice A1_3 l1_3.length c1_3, .int .i64 a1_4, .int .i64 a1_5, .slice A1_6 l1_6.length c1_6, .slice A1_7 l1_7.length c1_7, .int .i64 a1_8] 46 (0, 0)) (by (with_reducible repeat (first | refine blk_drewN ?_ _ | refine blk_drew ?_ | refine blk_alloc ?_ _)); exact BK543.out)) : gb543 ≠ gb544)); have n9_ := Aside0.mk ((by rw [hg]; exact Nat.ne_of_gt (blk_lt (g := gb543) (o := .cells #[.int .i64 a1_0, .int .i64 a1_1, .slice A1_2 l1_2.length c1_2, .slice A1_3 l1_3.length c1_3, .int .i64 a1_4, .int .i64 a1_5, .slice A1_6 l1_6.length c1_6, .slice A1_7 l1_7.length c1_7, .int .i64 a1_8] 46 (0, 0)) (by (with_reducible repeat (first | refine blk_drewN ?_ _ | refine blk_drew ?_ | refine blk_alloc ?_ _)); exact BK543.out)) : gb544 ≠ gb543)); clear BK542; clear BK543; clear HB; have BK542 := n0_; have BK543 := n1_; have HB := n2_; have BK544 := n3_; have GW544 := n4_; have GE544 := n5_; have NB542_544 := n6_; have NB544_542 := n7_; have NB543_544 := n8_; have NB544_543 := n9_; clear n0_ n1_ n2_ n3_ n4_ n5_ n6_ n7_ n8_ n9_; clear hb hbox hg; have hnb9 := NB543_542.out; have hnc9 := NB542_543.out; have hnb10 := NB543_544.out; have hnc10 := NB544_543.out; have hcz11_0 : w8.cell? ⟨gb543, 0, none⟩ = some (.int .i64 a1_0) := (blk_cell BK543.out 0).trans rfl; have hcz11_1 : w8.cell? ⟨gb543, 1, none⟩ = some (.int .i64 a1_1) := (blk_cell BK543.out 1).trans rfl; have hcz11_2 : w8.cell? ⟨gb543, 2, none⟩ = some (.slice A1_2 l1_2.length c1_2) := (blk_cell BK543.out 2).trans rfl; have hcz11_3 : w8.cell? ⟨gb543, 3, none⟩ = some (.slice A1_3 l1_3.length c1_3) := (blk_cell BK543.out 3).trans rfl; have hcz11_4 : w8.cell? ⟨gb543, 4, none⟩ = some (.int .i64 a1_4) := (blk_cell BK543.out 4).trans rfl; have hcz11_5 : w8.cell? ⟨gb543, 5, none⟩ = some (.int .i64 a1_5) := (blk_cell BK543.out 5).trans rfl; have hcz11_6 : w8.cell? ⟨gb543, 6, none⟩ = some (.slice A1_6 l1_6.length c1_6) := (blk_cell BK543.out 6).trans rfl; have hcz11_7 : w8.cell? ⟨gb543, 7, none⟩ = some (.slice A1_7 l1_7.length c1_7) := (blk_cell BK543.out 7).trans rfl; have hcz11_8 : w8.cell? ⟨gb543, 8, none⟩ = some (.int .i64 a1_8) := (blk_cell BK543.out 8).trans rfl; have hfz11_0 := blk_frozen BK543.out 0; have hfz11_1 := blk_frozen BK543.out 1; have hfz11_2 := blk_frozen BK543.out 2; have hfz11_3 := blk_frozen BK543.out 3; have hfz11_4 := blk_frozen BK543.out 4; have hfz11_5 := blk_frozen BK543.out 5; have hfz11_6 := blk_frozen BK543.out 6; have hfz11_7 := blk_frozen BK543.out 7; have hfz11_8 := blk_frozen BK543.out 8) | ((with_reducible refine gate_callee (f := 11) rfl ?_); refine goesL_ (some 14) rfl rfl Try.func11 (by kernel_rfl) rfl #[.agg #[.int .i64 a1_0, .int .i64 a1_1, .slice A1_2 l1_2.length c1_2, .slice A1_3 l1_3.length c1_3, .int .i64 a1_4, .int .i64 a1_5, .slice A1_6 l1_6.length c1_6, .slice A1_7 l1_7.length c1_7, .int .i64 a1_8], .int .i64 1048576] rfl (by (try simp only [List.map_toArray, List.map_cons, List.map_nil]); first | done | rfl | (simp only [List.length_drop, List.length_take]; rfl)) ?_; (with_reducible refine (laws_szBatch.calls a1_0 a1_1 _ _ l1_2 _ _ l1_3 a1_4 a1_5 _ _ l1_6 _ _ l1_7 a1_8 1048576 t545 _ ?side1 ?side2 ?side3 ?side4 ?side5 ?side6 ?side7 ?side8 A4.out).mono ?_); (case side1 => repeat (first | exact (Kd.C_below HR1_2.out HB.out) | (with_reducible refine Kd.C_alloc ?_ _) | (with_reducible refine Kd.C_drewN ?_ _) | (with_reducible refine Kd.C_drew ?_))); (case side2 => exact HC1_2.out); (case side3 => repeat (first | exact (Kd.C_below HR1_3.out HB.out) | (with_reducible refine Kd.C_alloc ?_ _) | (with_reducible refine Kd.C_drewN ?_ _) | (with_reducible refine Kd.C_drew ?_))); (case side4 => exact HC1_3.out); (case side5 => repeat (first | exact (Kd.C_below HR1_6.out HB.out) | (with_reducible refine Kd.C_alloc ?_ _) | (with_reducible refine Kd.C_drewN ?_ _) | (with_reducible refine Kd.C_drew ?_))); (case side6 => exact HC1_6.out); (case side7 => repeat (first | exact (Kd.C_below HR1_7.out HB.out) | (with_reducible refine Kd.C_alloc ?_ _) | (with_reducible refine Kd.C_drewN ?_ _) | (with_reducible refine Kd.C_drew ?_))); (case side8 => exact HC1_7.out); rintro e w12 ⟨rfl, hb⟩; refine ⟨_, rfl, ?_⟩; have n0_ := Aside0.mk (blk_below (g := gb542) (o := .cells #[.int .i64 a0_0, .int .i64 a0_1, .int .i64 a0_2, .int .i64 a0_3] 43 (0, 0)) (by (with_reducible repeat (first | refine blk_drewN ?_ _ | refine blk_drew ?_ | refine blk_alloc ?_ _)); exact BK542.out) hb); have n1_ := Aside0.mk (blk_below (g := gb543) (o := .cells #[.int .i64 a1_0, .int .i64 a1_1, .slice A1_2 l1_2.length c1_2, .slice A1_3 l1_3.length c1_3, .int .i64 a1_4, .int .i64 a1_5, .slice A1_6 l1_6.length c1_6, .slice A1_7 l1_7.length c1_7, .int .i64 a1_8] 46 (0, 0)) (by (with_reducible repeat (first | refine blk_drewN ?_ _ | refine blk_drew ?_ | refine blk_alloc ?_ _)); exact BK543.out) hb); have n2_ := Aside0.mk (blk_below (g := gb544) (o := .cells #[.int .i64 a2_0, .int .i64 a2_1, .slice A2_2 l2_2.length c2_2] 49 (0, 0)) (by (with_reducible repeat (first | refine blk_drewN ?_ _ | refine blk_drew ?_ | refine blk_alloc ?_ _)); exact BK544.out) hb); have n3_ := Aside0.mk (below_step (by repeat (first | (with_reducible first | exact HB.out | apply below_alloc | apply pw_below_drewN | apply below_drew1 | refine below_set ?_ GE542.out | refine below_set ?_ GE543.out | refine below_set ?_ GE544.out) | exact HB.out)) hb); clear BK542; clear BK543; clear BK544; clear HB; have BK542 := n0_; have BK543 := n1_; have BK544 := n2_; have HB := n3_; clear n0_ n1_ n2_ n3_; (try clear hb); (try clear hb2); (try clear hk); (try clear hi)))
    go_ret
    exact ⟨by first | rfl | (simp [errW_none, errW_some] <;> rfl) | (simp [*, errW_none, errW_some] <;> rfl), by repeat (first | (with_reducible first | exact HB.out | apply below_alloc | apply pw_below_drewN | apply below_drew1 | refine below_set ?_ GE542.out | refine below_set ?_ GE543.out | refine below_set ?_ GE544.out) | exact HB.out)⟩
  · rw [if_neg c5] at H
    have c5b0 : decide (t545 < 0) = false := decide_eq_false c5
    clear c5
    replace H := Option.bind_eq_some_iff.mp H
    obtain ⟨t546, A130, H⟩ := H
    replace H : (if t546 < 0 then (some true) else ((laws_toAsk.f a0_0 a0_1 a0_2 a0_3).bind fun bt547 => ((laws_toBatch.f a1_0 a1_1 l1_2 l1_3 a1_4 a1_5 l1_6 l1_7 a1_8).bind fun bt551 => ((laws_toLedger.f a2_0 a2_1 l2_2).bind fun bt568 => ((spec_AskMay.f bt547.1 bt547.2.1 bt547.2.2.1 bt547.2.2.2 bt551.1 bt551.2.1 bt551.2.2.1 bt551.2.2.2.1 bt551.2.2.2.2.1 bt551.2.2.2.2.2.1 bt551.2.2.2.2.2.2.1 bt551.2.2.2.2.2.2.2.1 bt551.2.2.2.2.2.2.2.2 bt568.1 bt568.2.1 bt568.2.2).bind fun t573 => ((laws_toBatch.f a1_0 a1_1 l1_2 l1_3 a1_4 a1_5 l1_6 l1_7 a1_8).bind fun bt574 => ((laws_toLedger.f a2_0 a2_1 l2_2).bind fun bt592 => ((laws_toAsk.f a0_0 a0_1 a0_2 a0_3).bind fun bt598 => ((impl_AskMay.f bt598.1 bt598.2.1 bt598.2.2.1 bt598.2.2.2 bt574.1 bt574.2.1 bt574.2.2.1 bt574.2.2.2.1 bt574.2.2.2.2.1 bt574.2.2.2.2.2.1 bt574.2.2.2.2.2.2.1 bt574.2.2.2.2.2.2.2.1 bt574.2.2.2.2.2.2.2.2 bt592.1 bt592.2.1 bt592.2.2).bind fun t602 => (if (t602 != t573) = true then (none) else ((laws_toBatch.f a1_0 a1_1 l1_2 l1_3 a1_4 a1_5 l1_6 l1_7 a1_8).bind fun bt603 => ((laws_eqBatch.f bt574.1 bt574.2.1 bt574.2.2.1 bt574.2.2.2.1 bt574.2.2.2.2.1 bt574.2.2.2.2.2.1 bt574.2.2.2.2.2.2.1 bt574.2.2.2.2.2.2.2.1 bt574.2.2.2.2.2.2.2.2 bt603.1 bt603.2.1 bt603.2.2.1 bt603.2.2.2.1 bt603.2.2.2.2.1 bt603.2.2.2.2.2.1 bt603.2.2.2.2.2.2.1 bt603.2.2.2.2.2.2.2.1 bt603.2.2.2.2.2.2.2.2).bind fun t620 => (if t620 = true then ((laws_toLedger.f a2_0 a2_1 l2_2).bind fun bt621 => ((laws_eqLedger.f bt592.1 bt592.2.1 bt592.2.2 bt621.1 bt621.2.1 bt621.2.2).bind fun t626 => (if t626 = true then (some true) else (none)))) else (none)))))))))))))) = some r := H
    have A13 := Aside0.mk A130
    clear A130
    by_cases c14 : t546 < 0
    · rw [if_pos c14] at H
      have c14b0 : decide (t546 < 0) = true := decide_eq_true c14
      clear c14
      obtain rfl := Option.some.inj H
      go_enter Try.func4, Try.ntmps4
      go_wp2_with (first | ((with_reducible refine gate_dst (N := 3) rfl ?_); refine box_event ?hg (N := 3) ?hd (cs := #[.int .i64 a0_0, .int .i64 a0_1, .int .i64 a0_2, .int .i64 a0_3]) (t := 43) ?hr ?_; (case hd => rfl); (case hg => rfl); (case hr => first | (go_simp; done) | (go_simp; rfl)); intro gb542 hg w15 hbox hb; have n0_ := Aside0.mk (below_step (by repeat (first | (with_reducible first | exact HB.out | apply below_alloc | apply pw_below_drewN | apply below_drew1) | exact HB.out)) hb); have n1_ := Aside0.mk (hbox); have n2_ := Aside0.mk ((by rw [hg]; exact (below_size (by repeat (first | (with_reducible first | exact HB.out | apply below_alloc | apply pw_below_drewN | apply below_drew1) | exact HB.out))) : w.heap.size ≤ gb542)); have n3_ := Aside0.mk ((by rw [hg]; exact (below_size (by repeat (first | (with_reducible first | exact HB.out | apply below_alloc | apply pw_below_drewN | apply below_drew1) | exact HB.out))) : w.heap.size ≤ gb542)); clear HB; have HB := n0_; have BK542 := n1_; have GW542 := n2_; have GE542 := n3_; clear n0_ n1_ n2_ n3_; clear hb hbox hg) | ((with_reducible refine gate_dst (N := 4) rfl ?_); refine box_event ?hg (N := 4) ?hd (cs := #[.int .i64 a1_0, .int .i64 a1_1, .slice A1_2 l1_2.length c1_2, .slice A1_3 l1_3.length c1_3, .int .i64 a1_4, .int .i64 a1_5, .slice A1_6 l1_6.length c1_6, .slice A1_7 l1_7.length c1_7, .int .i64 a1_8]) (t := 46) ?hr ?_; (case hd => rfl); (case hg => rfl); (case hr => first | (go_simp; done) | (go_simp; rfl)); intro gb543 hg w16 hbox hb; have n0_ := Aside0.mk (blk_below (g := gb542) (o := .cells #[.int .i64 a0_0, .int .i64 a0_1, .int .i64 a0_2, .int .i64 a0_3] 43 (0, 0)) (by (with_reducible repeat (first | refine blk_drewN ?_ _ | refine blk_drew ?_ | refine blk_alloc ?_ _)); exact BK542.out) hb); have n1_ := Aside0.mk (below_step (by repeat (first | (with_reducible first | exact HB.out | apply below_alloc | apply pw_below_drewN | apply below_drew1 | refine below_set ?_ GE542.out) | exact HB.out)) hb); have n2_ := Aside0.mk (hbox); have n3_ := Aside0.mk ((by rw [hg]; exact (below_size (by repeat (first | (with_reducible first | exact HB.out | apply below_alloc | apply pw_below_drewN | apply below_drew1 | refine below_set ?_ GE542.out) | exact HB.out))) : w.heap.size ≤ gb543)); have n4_ := Aside0.mk ((by rw [hg]; exact (below_size (by repeat (first | (with_reducible first | exact HB.out | apply below_alloc | apply pw_below_drewN | apply below_drew1 | refine below_set ?_ GE542.out) | exact HB.out))) : w.heap.size ≤ gb543)); have n5_ := Aside0.mk ((by rw [hg]; exact Nat.ne_of_lt (blk_lt (g := gb542) (o := .cells #[.int .i64 a0_0, .int .i64 a0_1, .int .i64 a0_2, .int .i64 a0_3] 43 (0, 0)) (by (with_reducible repeat (first | refine blk_drewN ?_ _ | refine blk_drew ?_ | refine blk_alloc ?_ _)); exact BK542.out)) : gb542 ≠ gb543)); have n6_ := Aside0.mk ((by rw [hg]; exact Nat.ne_of_gt (blk_lt (g := gb542) (o := .cells #[.int .i64 a0_0, .int .i64 a0_1, .int .i64 a0_2, .int .i64 a0_3] 43 (0, 0)) (by (with_reducible repeat (first | refine blk_drewN ?_ _ | refine blk_drew ?_ | refine blk_alloc ?_ _)); exact BK542.out)) : gb543 ≠ gb542)); clear BK542; clear HB; have BK542 := n0_; have HB := n1_; have BK543 := n2_; have GW543 := n3_; have GE543 := n4_; have NB542_543 := n5_; have NB543_542 := n6_; clear n0_ n1_ n2_ n3_ n4_ n5_ n6_; clear hb hbox hg) | ((with_reducible refine gate_dst (N := 5) rfl ?_); refine box_event ?hg (N := 5) ?hd (cs := #[.int .i64 a2_0, .int .i64 a2_1, .slice A2_2 l2_2.length c2_2]) (t := 49) ?hr ?_; (case hd => rfl); (case hg => rfl); (case hr => first | (go_simp; done) | (go_simp; rfl)); intro gb544 hg w17 hbox hb; have n0_ := Aside0.mk (blk_below (g := gb542) (o := .cells #[.int .i64 a0_0, .int .i64 a0_1, .int .i64 a0_2, .int .i64 a0_3] 43 (0, 0)) (by (with_reducible repeat (first | refine blk_drewN ?_ _ | refine blk_drew ?_ | refine blk_alloc ?_ _)); exact BK542.out) hb); have n1_ := Aside0.mk (blk_below (g := gb543) (o := .cells #[.int .i64 a1_0, .int .i64 a1_1, .slice A1_2 l1_2.length c1_2, .slice A1_3 l1_3.length c1_3, .int .i64 a1_4, .int .i64 a1_5, .slice A1_6 l1_6.length c1_6, .slice A1_7 l1_7.length c1_7, .int .i64 a1_8] 46 (0, 0)) (by (with_reducible repeat (first | refine blk_drewN ?_ _ | refine blk_drew ?_ | refine blk_alloc ?_ _)); exact BK543.out) hb); have n2_ := Aside0.mk (below_step (by repeat (first | (with_reducible first | exact HB.out | apply below_alloc | apply pw_below_drewN | apply below_drew1 | refine below_set ?_ GE542.out | refine below_set ?_ GE543.out) | exact HB.out)) hb); have n3_ := Aside0.mk (hbox); have n4_ := Aside0.mk ((by rw [hg]; exact (below_size (by repeat (first | (with_reducible first | exact HB.out | apply below_alloc | apply pw_below_drewN | apply below_drew1 | refine below_set ?_ GE542.out | refine below_set ?_ GE543.out) | exact HB.out))) : w.heap.size ≤ gb544)); have n5_ := Aside0.mk ((by rw [hg]; exact (below_size (by repeat (first | (with_reducible first | exact HB.out | apply below_alloc | apply pw_below_drewN | apply below_drew1 | refine below_set ?_ GE542.out | refine below_set ?_ GE543.out) | exact HB.out))) : w.heap.size ≤ gb544)); have n6_ := Aside0.mk ((by rw [hg]; exact Nat.ne_of_lt (blk_lt (g := gb542) (o := .cells #[.int .i64 a0_0, .int .i64 a0_1, .int .i64 a0_2, .int .i64 a0_3] 43 (0, 0)) (by (with_reducible repeat (first | refine blk_drewN ?_ _ | refine blk_drew ?_ | refine blk_alloc ?_ _)); exact BK542.out)) : gb542 ≠ gb544)); have n7_ := Aside0.mk ((by rw [hg]; exact Nat.ne_of_gt (blk_lt (g := gb542) (o := .cells #[.int .i64 a0_0, .int .i64 a0_1, .int .i64 a0_2, .int .i64 a0_3] 43 (0, 0)) (by (with_reducible repeat (first | refine blk_drewN ?_ _ | refine blk_drew ?_ | refine blk_alloc ?_ _)); exact BK542.out)) : gb544 ≠ gb542)); have n8_ := Aside0.mk ((by rw [hg]; exact Nat.ne_of_lt (blk_lt (g := gb543) (o := .cells #[.int .i64 a1_0, .int .i64 a1_1, .slice A1_2 l1_2.length c1_2, .slice A1_3 l1_3.length c1_3, .int .i64 a1_4, .int .i64 a1_5, .slice A1_6 l1_6.length c1_6, .slice A1_7 l1_7.length c1_7, .int .i64 a1_8] 46 (0, 0)) (by (with_reducible repeat (first | refine blk_drewN ?_ _ | refine blk_drew ?_ | refine blk_alloc ?_ _)); exact BK543.out)) : gb543 ≠ gb544)); have n9_ := Aside0.mk ((by rw [hg]; exact Nat.ne_of_gt (blk_lt (g := gb543) (o := .cells #[.int .i64 a1_0, .int .i64 a1_1, .slice A1_2 l1_2.length c1_2, .slice A1_3 l1_3.length c1_3, .int .i64 a1_4, .int .i64 a1_5, .slice A1_6 l1_6.length c1_6, .slice A1_7 l1_7.length c1_7, .int .i64 a1_8] 46 (0, 0)) (by (with_reducible repeat (first | refine blk_drewN ?_ _ | refine blk_drew ?_ | refine blk_alloc ?_ _)); exact BK543.out)) : gb544 ≠ gb543)); clear BK542; clear BK543; clear HB; have BK542 := n0_; have BK543 := n1_; have HB := n2_; have BK544 := n3_; have GW544 := n4_; have GE544 := n5_; have NB542_544 := n6_; have NB544_542 := n7_; have NB543_544 := n8_; have NB544_543 := n9_; clear n0_ n1_ n2_ n3_ n4_ n5_ n6_ n7_ n8_ n9_; clear hb hbox hg; have hnb18 := NB543_542.out; have hnc18 := NB542_543.out; have hnb19 := NB543_544.out; have hnc19 := NB544_543.out; have hcz20_0 : w17.cell? ⟨gb543, 0, none⟩ = some (.int .i64 a1_0) := (blk_cell BK543.out 0).trans rfl; have hcz20_1 : w17.cell? ⟨gb543, 1, none⟩ = some (.int .i64 a1_1) := (blk_cell BK543.out 1).trans rfl; have hcz20_2 : w17.cell? ⟨gb543, 2, none⟩ = some (.slice A1_2 l1_2.length c1_2) := (blk_cell BK543.out 2).trans rfl; have hcz20_3 : w17.cell? ⟨gb543, 3, none⟩ = some (.slice A1_3 l1_3.length c1_3) := (blk_cell BK543.out 3).trans rfl; have hcz20_4 : w17.cell? ⟨gb543, 4, none⟩ = some (.int .i64 a1_4) := (blk_cell BK543.out 4).trans rfl; have hcz20_5 : w17.cell? ⟨gb543, 5, none⟩ = some (.int .i64 a1_5) := (blk_cell BK543.out 5).trans rfl; have hcz20_6 : w17.cell? ⟨gb543, 6, none⟩ = some (.slice A1_6 l1_6.length c1_6) := (blk_cell BK543.out 6).trans rfl; have hcz20_7 : w17.cell? ⟨gb543, 7, none⟩ = some (.slice A1_7 l1_7.length c1_7) := (blk_cell BK543.out 7).trans rfl; have hcz20_8 : w17.cell? ⟨gb543, 8, none⟩ = some (.int .i64 a1_8) := (blk_cell BK543.out 8).trans rfl; have hfz20_0 := blk_frozen BK543.out 0; have hfz20_1 := blk_frozen BK543.out 1; have hfz20_2 := blk_frozen BK543.out 2; have hfz20_3 := blk_frozen BK543.out 3; have hfz20_4 := blk_frozen BK543.out 4; have hfz20_5 := blk_frozen BK543.out 5; have hfz20_6 := blk_frozen BK543.out 6; have hfz20_7 := blk_frozen BK543.out 7; have hfz20_8 := blk_frozen BK543.out 8) | ((with_reducible refine gate_callee (f := 11) rfl ?_); refine goesL_ (some 14) rfl rfl Try.func11 (by kernel_rfl) rfl #[.agg #[.int .i64 a1_0, .int .i64 a1_1, .slice A1_2 l1_2.length c1_2, .slice A1_3 l1_3.length c1_3, .int .i64 a1_4, .int .i64 a1_5, .slice A1_6 l1_6.length c1_6, .slice A1_7 l1_7.length c1_7, .int .i64 a1_8], .int .i64 1048576] rfl (by (try simp only [List.map_toArray, List.map_cons, List.map_nil]); first | done | rfl | (simp only [List.length_drop, List.length_take]; rfl)) ?_; (with_reducible refine (laws_szBatch.calls a1_0 a1_1 _ _ l1_2 _ _ l1_3 a1_4 a1_5 _ _ l1_6 _ _ l1_7 a1_8 1048576 t545 _ ?side1 ?side2 ?side3 ?side4 ?side5 ?side6 ?side7 ?side8 A4.out).mono ?_); (case side1 => repeat (first | exact (Kd.C_below HR1_2.out HB.out) | (with_reducible refine Kd.C_alloc ?_ _) | (with_reducible refine Kd.C_drewN ?_ _) | (with_reducible refine Kd.C_drew ?_))); (case side2 => exact HC1_2.out); (case side3 => repeat (first | exact (Kd.C_below HR1_3.out HB.out) | (with_reducible refine Kd.C_alloc ?_ _) | (with_reducible refine Kd.C_drewN ?_ _) | (with_reducible refine Kd.C_drew ?_))); (case side4 => exact HC1_3.out); (case side5 => repeat (first | exact (Kd.C_below HR1_6.out HB.out) | (with_reducible refine Kd.C_alloc ?_ _) | (with_reducible refine Kd.C_drewN ?_ _) | (with_reducible refine Kd.C_drew ?_))); (case side6 => exact HC1_6.out); (case side7 => repeat (first | exact (Kd.C_below HR1_7.out HB.out) | (with_reducible refine Kd.C_alloc ?_ _) | (with_reducible refine Kd.C_drewN ?_ _) | (with_reducible refine Kd.C_drew ?_))); (case side8 => exact HC1_7.out); rintro e w21 ⟨rfl, hb⟩; refine ⟨_, rfl, ?_⟩; have n0_ := Aside0.mk (blk_below (g := gb542) (o := .cells #[.int .i64 a0_0, .int .i64 a0_1, .int .i64 a0_2, .int .i64 a0_3] 43 (0, 0)) (by (with_reducible repeat (first | refine blk_drewN ?_ _ | refine blk_drew ?_ | refine blk_alloc ?_ _)); exact BK542.out) hb); have n1_ := Aside0.mk (blk_below (g := gb543) (o := .cells #[.int .i64 a1_0, .int .i64 a1_1, .slice A1_2 l1_2.length c1_2, .slice A1_3 l1_3.length c1_3, .int .i64 a1_4, .int .i64 a1_5, .slice A1_6 l1_6.length c1_6, .slice A1_7 l1_7.length c1_7, .int .i64 a1_8] 46 (0, 0)) (by (with_reducible repeat (first | refine blk_drewN ?_ _ | refine blk_drew ?_ | refine blk_alloc ?_ _)); exact BK543.out) hb); have n2_ := Aside0.mk (blk_below (g := gb544) (o := .cells #[.int .i64 a2_0, .int .i64 a2_1, .slice A2_2 l2_2.length c2_2] 49 (0, 0)) (by (with_reducible repeat (first | refine blk_drewN ?_ _ | refine blk_drew ?_ | refine blk_alloc ?_ _)); exact BK544.out) hb); have n3_ := Aside0.mk (below_step (by repeat (first | (with_reducible first | exact HB.out | apply below_alloc | apply pw_below_drewN | apply below_drew1 | refine below_set ?_ GE542.out | refine below_set ?_ GE543.out | refine below_set ?_ GE544.out) | exact HB.out)) hb); clear BK542; clear BK543; clear BK544; clear HB; have BK542 := n0_; have BK543 := n1_; have BK544 := n2_; have HB := n3_; clear n0_ n1_ n2_ n3_; (try clear hb); (try clear hb2); (try clear hk); (try clear hi); have hnb22 := NB544_542.out; have hnc22 := NB542_544.out; have hcz23_0 : w21.cell? ⟨gb544, 0, none⟩ = some (.int .i64 a2_0) := (blk_cell BK544.out 0).trans rfl; have hcz23_1 : w21.cell? ⟨gb544, 1, none⟩ = some (.int .i64 a2_1) := (blk_cell BK544.out 1).trans rfl; have hcz23_2 : w21.cell? ⟨gb544, 2, none⟩ = some (.slice A2_2 l2_2.length c2_2) := (blk_cell BK544.out 2).trans rfl; have hfz23_0 := blk_frozen BK544.out 0; have hfz23_1 := blk_frozen BK544.out 1; have hfz23_2 := blk_frozen BK544.out 2) | ((with_reducible refine gate_callee (f := 12) rfl ?_); refine goesL_ (some 19) rfl rfl Try.func12 (by kernel_rfl) rfl #[.agg #[.int .i64 a2_0, .int .i64 a2_1, .slice A2_2 l2_2.length c2_2], .int .i64 t545] rfl (by (try simp only [List.map_toArray, List.map_cons, List.map_nil]); first | done | rfl | (simp only [List.length_drop, List.length_take]; rfl)) ?_; (with_reducible refine (laws_szLedger.calls a2_0 a2_1 _ _ l2_2 t545 t546 _ ?side1 ?side2 A13.out).mono ?_); (case side1 => repeat (first | exact (Kd.C_below HR2_2.out HB.out) | (with_reducible refine Kd.C_alloc ?_ _) | (with_reducible refine Kd.C_drewN ?_ _) | (with_reducible refine Kd.C_drew ?_))); (case side2 => exact HC2_2.out); rintro e w24 ⟨rfl, hb⟩; refine ⟨_, rfl, ?_⟩; have n0_ := Aside0.mk (blk_below (g := gb542) (o := .cells #[.int .i64 a0_0, .int .i64 a0_1, .int .i64 a0_2, .int .i64 a0_3] 43 (0, 0)) (by (with_reducible repeat (first | refine blk_drewN ?_ _ | refine blk_drew ?_ | refine blk_alloc ?_ _)); exact BK542.out) hb); have n1_ := Aside0.mk (blk_below (g := gb543) (o := .cells #[.int .i64 a1_0, .int .i64 a1_1, .slice A1_2 l1_2.length c1_2, .slice A1_3 l1_3.length c1_3, .int .i64 a1_4, .int .i64 a1_5, .slice A1_6 l1_6.length c1_6, .slice A1_7 l1_7.length c1_7, .int .i64 a1_8] 46 (0, 0)) (by (with_reducible repeat (first | refine blk_drewN ?_ _ | refine blk_drew ?_ | refine blk_alloc ?_ _)); exact BK543.out) hb); have n2_ := Aside0.mk (blk_below (g := gb544) (o := .cells #[.int .i64 a2_0, .int .i64 a2_1, .slice A2_2 l2_2.length c2_2] 49 (0, 0)) (by (with_reducible repeat (first | refine blk_drewN ?_ _ | refine blk_drew ?_ | refine blk_alloc ?_ _)); exact BK544.out) hb); have n3_ := Aside0.mk (below_step (by repeat (first | (with_reducible first | exact HB.out | apply below_alloc | apply pw_below_drewN | apply below_drew1 | refine below_set ?_ GE542.out | refine below_set ?_ GE543.out | refine below_set ?_ GE544.out) | exact HB.out)) hb); clear BK542; clear BK543; clear BK544; clear HB; have BK542 := n0_; have BK543 := n1_; have BK544 := n2_; have HB := n3_; clear n0_ n1_ n2_ n3_; (try clear hb); (try clear hb2); (try clear hk); (try clear hi)))
      go_ret
      exact ⟨by first | rfl | (simp [errW_none, errW_some] <;> rfl) | (simp [*, errW_none, errW_some] <;> rfl), by repeat (first | (with_reducible first | exact HB.out | apply below_alloc | apply pw_below_drewN | apply below_drew1 | refine below_set ?_ GE542.out | refine below_set ?_ GE543.out | refine below_set ?_ GE544.out) | exact HB.out)⟩
    · rw [if_neg c14] at H
      have c14b0 : decide (t546 < 0) = false := decide_eq_false c14
      clear c14
      replace H := Option.bind_eq_some_iff.mp H
      obtain ⟨⟨t547, t548, t549, t550⟩, A250, H⟩ := H
      replace H : ((laws_toBatch.f a1_0 a1_1 l1_2 l1_3 a1_4 a1_5 l1_6 l1_7 a1_8).bind fun bt551 => ((laws_toLedger.f a2_0 a2_1 l2_2).bind fun bt568 => ((spec_AskMay.f t547 t548 t549 t550 bt551.1 bt551.2.1 bt551.2.2.1 bt551.2.2.2.1 bt551.2.2.2.2.1 bt551.2.2.2.2.2.1 bt551.2.2.2.2.2.2.1 bt551.2.2.2.2.2.2.2.1 bt551.2.2.2.2.2.2.2.2 bt568.1 bt568.2.1 bt568.2.2).bind fun t573 => ((laws_toBatch.f a1_0 a1_1 l1_2 l1_3 a1_4 a1_5 l1_6 l1_7 a1_8).bind fun bt574 => ((laws_toLedger.f a2_0 a2_1 l2_2).bind fun bt592 => ((laws_toAsk.f a0_0 a0_1 a0_2 a0_3).bind fun bt598 => ((impl_AskMay.f bt598.1 bt598.2.1 bt598.2.2.1 bt598.2.2.2 bt574.1 bt574.2.1 bt574.2.2.1 bt574.2.2.2.1 bt574.2.2.2.2.1 bt574.2.2.2.2.2.1 bt574.2.2.2.2.2.2.1 bt574.2.2.2.2.2.2.2.1 bt574.2.2.2.2.2.2.2.2 bt592.1 bt592.2.1 bt592.2.2).bind fun t602 => (if (t602 != t573) = true then (none) else ((laws_toBatch.f a1_0 a1_1 l1_2 l1_3 a1_4 a1_5 l1_6 l1_7 a1_8).bind fun bt603 => ((laws_eqBatch.f bt574.1 bt574.2.1 bt574.2.2.1 bt574.2.2.2.1 bt574.2.2.2.2.1 bt574.2.2.2.2.2.1 bt574.2.2.2.2.2.2.1 bt574.2.2.2.2.2.2.2.1 bt574.2.2.2.2.2.2.2.2 bt603.1 bt603.2.1 bt603.2.2.1 bt603.2.2.2.1 bt603.2.2.2.2.1 bt603.2.2.2.2.2.1 bt603.2.2.2.2.2.2.1 bt603.2.2.2.2.2.2.2.1 bt603.2.2.2.2.2.2.2.2).bind fun t620 => (if t620 = true then ((laws_toLedger.f a2_0 a2_1 l2_2).bind fun bt621 => ((laws_eqLedger.f bt592.1 bt592.2.1 bt592.2.2 bt621.1 bt621.2.1 bt621.2.2).bind fun t626 => (if t626 = true then (some true) else (none)))) else (none)))))))))))) = some r := H
      have A25 := Aside0.mk A250
      clear A250
      replace H := Option.bind_eq_some_iff.mp H
      obtain ⟨⟨t551, t552, t553, t556, t559, t560, t561, t564, t567⟩, A260, H⟩ := H
      replace H : ((laws_toLedger.f a2_0 a2_1 l2_2).bind fun bt568 => ((spec_AskMay.f t547 t548 t549 t550 t551 t552 t553 t556 t559 t560 t561 t564 t567 bt568.1 bt568.2.1 bt568.2.2).bind fun t573 => ((laws_toBatch.f a1_0 a1_1 l1_2 l1_3 a1_4 a1_5 l1_6 l1_7 a1_8).bind fun bt574 => ((laws_toLedger.f a2_0 a2_1 l2_2).bind fun bt592 => ((laws_toAsk.f a0_0 a0_1 a0_2 a0_3).bind fun bt598 => ((impl_AskMay.f bt598.1 bt598.2.1 bt598.2.2.1 bt598.2.2.2 bt574.1 bt574.2.1 bt574.2.2.1 bt574.2.2.2.1 bt574.2.2.2.2.1 bt574.2.2.2.2.2.1 bt574.2.2.2.2.2.2.1 bt574.2.2.2.2.2.2.2.1 bt574.2.2.2.2.2.2.2.2 bt592.1 bt592.2.1 bt592.2.2).bind fun t602 => (if (t602 != t573) = true then (none) else ((laws_toBatch.f a1_0 a1_1 l1_2 l1_3 a1_4 a1_5 l1_6 l1_7 a1_8).bind fun bt603 => ((laws_eqBatch.f bt574.1 bt574.2.1 bt574.2.2.1 bt574.2.2.2.1 bt574.2.2.2.2.1 bt574.2.2.2.2.2.1 bt574.2.2.2.2.2.2.1 bt574.2.2.2.2.2.2.2.1 bt574.2.2.2.2.2.2.2.2 bt603.1 bt603.2.1 bt603.2.2.1 bt603.2.2.2.1 bt603.2.2.2.2.1 bt603.2.2.2.2.2.1 bt603.2.2.2.2.2.2.1 bt603.2.2.2.2.2.2.2.1 bt603.2.2.2.2.2.2.2.2).bind fun t620 => (if t620 = true then ((laws_toLedger.f a2_0 a2_1 l2_2).bind fun bt621 => ((laws_eqLedger.f bt592.1 bt592.2.1 bt592.2.2 bt621.1 bt621.2.1 bt621.2.2).bind fun t626 => (if t626 = true then (some true) else (none)))) else (none))))))))))) = some r := H
      have A26 := Aside0.mk A260
      clear A260
      replace H := Option.bind_eq_some_iff.mp H
      obtain ⟨⟨t568, t569, t570⟩, A270, H⟩ := H
      replace H : ((spec_AskMay.f t547 t548 t549 t550 t551 t552 t553 t556 t559 t560 t561 t564 t567 t568 t569 t570).bind fun t573 => ((laws_toBatch.f a1_0 a1_1 l1_2 l1_3 a1_4 a1_5 l1_6 l1_7 a1_8).bind fun bt574 => ((laws_toLedger.f a2_0 a2_1 l2_2).bind fun bt592 => ((laws_toAsk.f a0_0 a0_1 a0_2 a0_3).bind fun bt598 => ((impl_AskMay.f bt598.1 bt598.2.1 bt598.2.2.1 bt598.2.2.2 bt574.1 bt574.2.1 bt574.2.2.1 bt574.2.2.2.1 bt574.2.2.2.2.1 bt574.2.2.2.2.2.1 bt574.2.2.2.2.2.2.1 bt574.2.2.2.2.2.2.2.1 bt574.2.2.2.2.2.2.2.2 bt592.1 bt592.2.1 bt592.2.2).bind fun t602 => (if (t602 != t573) = true then (none) else ((laws_toBatch.f a1_0 a1_1 l1_2 l1_3 a1_4 a1_5 l1_6 l1_7 a1_8).bind fun bt603 => ((laws_eqBatch.f bt574.1 bt574.2.1 bt574.2.2.1 bt574.2.2.2.1 bt574.2.2.2.2.1 bt574.2.2.2.2.2.1 bt574.2.2.2.2.2.2.1 bt574.2.2.2.2.2.2.2.1 bt574.2.2.2.2.2.2.2.2 bt603.1 bt603.2.1 bt603.2.2.1 bt603.2.2.2.1 bt603.2.2.2.2.1 bt603.2.2.2.2.2.1 bt603.2.2.2.2.2.2.1 bt603.2.2.2.2.2.2.2.1 bt603.2.2.2.2.2.2.2.2).bind fun t620 => (if t620 = true then ((laws_toLedger.f a2_0 a2_1 l2_2).bind fun bt621 => ((laws_eqLedger.f bt592.1 bt592.2.1 bt592.2.2 bt621.1 bt621.2.1 bt621.2.2).bind fun t626 => (if t626 = true then (some true) else (none)))) else (none)))))))))) = some r := H
      have A27 := Aside0.mk A270
      clear A270
      replace H := Option.bind_eq_some_iff.mp H
      obtain ⟨t573, A280, H⟩ := H
      replace H : ((laws_toBatch.f a1_0 a1_1 l1_2 l1_3 a1_4 a1_5 l1_6 l1_7 a1_8).bind fun bt574 => ((laws_toLedger.f a2_0 a2_1 l2_2).bind fun bt592 => ((laws_toAsk.f a0_0 a0_1 a0_2 a0_3).bind fun bt598 => ((impl_AskMay.f bt598.1 bt598.2.1 bt598.2.2.1 bt598.2.2.2 bt574.1 bt574.2.1 bt574.2.2.1 bt574.2.2.2.1 bt574.2.2.2.2.1 bt574.2.2.2.2.2.1 bt574.2.2.2.2.2.2.1 bt574.2.2.2.2.2.2.2.1 bt574.2.2.2.2.2.2.2.2 bt592.1 bt592.2.1 bt592.2.2).bind fun t602 => (if (t602 != t573) = true then (none) else ((laws_toBatch.f a1_0 a1_1 l1_2 l1_3 a1_4 a1_5 l1_6 l1_7 a1_8).bind fun bt603 => ((laws_eqBatch.f bt574.1 bt574.2.1 bt574.2.2.1 bt574.2.2.2.1 bt574.2.2.2.2.1 bt574.2.2.2.2.2.1 bt574.2.2.2.2.2.2.1 bt574.2.2.2.2.2.2.2.1 bt574.2.2.2.2.2.2.2.2 bt603.1 bt603.2.1 bt603.2.2.1 bt603.2.2.2.1 bt603.2.2.2.2.1 bt603.2.2.2.2.2.1 bt603.2.2.2.2.2.2.1 bt603.2.2.2.2.2.2.2.1 bt603.2.2.2.2.2.2.2.2).bind fun t620 => (if t620 = true then ((laws_toLedger.f a2_0 a2_1 l2_2).bind fun bt621 => ((laws_eqLedger.f bt592.1 bt592.2.1 bt592.2.2 bt621.1 bt621.2.1 bt621.2.2).bind fun t626 => (if t626 = true then (some true) else (none)))) else (none))))))))) = some r := H
      have A28 := Aside0.mk A280
      clear A280
      replace H := Option.bind_eq_some_iff.mp H
      obtain ⟨⟨t574, t575, t576, t579, t582, t583, t584, t587, t590⟩, A290, H⟩ := H
      replace H : ((laws_toLedger.f a2_0 a2_1 l2_2).bind fun bt592 => ((laws_toAsk.f a0_0 a0_1 a0_2 a0_3).bind fun bt598 => ((impl_AskMay.f bt598.1 bt598.2.1 bt598.2.2.1 bt598.2.2.2 t574 t575 t576 t579 t582 t583 t584 t587 t590 bt592.1 bt592.2.1 bt592.2.2).bind fun t602 => (if (t602 != t573) = true then (none) else ((laws_toBatch.f a1_0 a1_1 l1_2 l1_3 a1_4 a1_5 l1_6 l1_7 a1_8).bind fun bt603 => ((laws_eqBatch.f t574 t575 t576 t579 t582 t583 t584 t587 t590 bt603.1 bt603.2.1 bt603.2.2.1 bt603.2.2.2.1 bt603.2.2.2.2.1 bt603.2.2.2.2.2.1 bt603.2.2.2.2.2.2.1 bt603.2.2.2.2.2.2.2.1 bt603.2.2.2.2.2.2.2.2).bind fun t620 => (if t620 = true then ((laws_toLedger.f a2_0 a2_1 l2_2).bind fun bt621 => ((laws_eqLedger.f bt592.1 bt592.2.1 bt592.2.2 bt621.1 bt621.2.1 bt621.2.2).bind fun t626 => (if t626 = true then (some true) else (none)))) else (none)))))))) = some r := H
      have A29 := Aside0.mk A290
      clear A290
      replace H := Option.bind_eq_some_iff.mp H
      obtain ⟨⟨t592, t593, t594⟩, A300, H⟩ := H
      replace H : ((laws_toAsk.f a0_0 a0_1 a0_2 a0_3).bind fun bt598 => ((impl_AskMay.f bt598.1 bt598.2.1 bt598.2.2.1 bt598.2.2.2 t574 t575 t576 t579 t582 t583 t584 t587 t590 t592 t593 t594).bind fun t602 => (if (t602 != t573) = true then (none) else ((laws_toBatch.f a1_0 a1_1 l1_2 l1_3 a1_4 a1_5 l1_6 l1_7 a1_8).bind fun bt603 => ((laws_eqBatch.f t574 t575 t576 t579 t582 t583 t584 t587 t590 bt603.1 bt603.2.1 bt603.2.2.1 bt603.2.2.2.1 bt603.2.2.2.2.1 bt603.2.2.2.2.2.1 bt603.2.2.2.2.2.2.1 bt603.2.2.2.2.2.2.2.1 bt603.2.2.2.2.2.2.2.2).bind fun t620 => (if t620 = true then ((laws_toLedger.f a2_0 a2_1 l2_2).bind fun bt621 => ((laws_eqLedger.f t592 t593 t594 bt621.1 bt621.2.1 bt621.2.2).bind fun t626 => (if t626 = true then (some true) else (none)))) else (none))))))) = some r := H
      have A30 := Aside0.mk A300
      clear A300
      replace H := Option.bind_eq_some_iff.mp H
      obtain ⟨⟨t598, t599, t600, t601⟩, A310, H⟩ := H
      replace H : ((impl_AskMay.f t598 t599 t600 t601 t574 t575 t576 t579 t582 t583 t584 t587 t590 t592 t593 t594).bind fun t602 => (if (t602 != t573) = true then (none) else ((laws_toBatch.f a1_0 a1_1 l1_2 l1_3 a1_4 a1_5 l1_6 l1_7 a1_8).bind fun bt603 => ((laws_eqBatch.f t574 t575 t576 t579 t582 t583 t584 t587 t590 bt603.1 bt603.2.1 bt603.2.2.1 bt603.2.2.2.1 bt603.2.2.2.2.1 bt603.2.2.2.2.2.1 bt603.2.2.2.2.2.2.1 bt603.2.2.2.2.2.2.2.1 bt603.2.2.2.2.2.2.2.2).bind fun t620 => (if t620 = true then ((laws_toLedger.f a2_0 a2_1 l2_2).bind fun bt621 => ((laws_eqLedger.f t592 t593 t594 bt621.1 bt621.2.1 bt621.2.2).bind fun t626 => (if t626 = true then (some true) else (none)))) else (none)))))) = some r := H
      have A31 := Aside0.mk A310
      clear A310
      replace H := Option.bind_eq_some_iff.mp H
      obtain ⟨t602, A320, H⟩ := H
      replace H : (if (t602 != t573) = true then (none) else ((laws_toBatch.f a1_0 a1_1 l1_2 l1_3 a1_4 a1_5 l1_6 l1_7 a1_8).bind fun bt603 => ((laws_eqBatch.f t574 t575 t576 t579 t582 t583 t584 t587 t590 bt603.1 bt603.2.1 bt603.2.2.1 bt603.2.2.2.1 bt603.2.2.2.2.1 bt603.2.2.2.2.2.1 bt603.2.2.2.2.2.2.1 bt603.2.2.2.2.2.2.2.1 bt603.2.2.2.2.2.2.2.2).bind fun t620 => (if t620 = true then ((laws_toLedger.f a2_0 a2_1 l2_2).bind fun bt621 => ((laws_eqLedger.f t592 t593 t594 bt621.1 bt621.2.1 bt621.2.2).bind fun t626 => (if t626 = true then (some true) else (none)))) else (none))))) = some r := H
      have A32 := Aside0.mk A320
      clear A320
      by_cases c33 : (t602 != t573) = true
      · rw [if_pos c33] at H
        exact absurd H (by simp)
      · rw [if_neg c33] at H
        have c33b0 : (t602 != t573) = false := by simpa using c33
        (try (have c33b1 : decide (t602 = t573) = true := by simpa using c33))
        (try (have c33b2 : (t602 == t573) = true := by simpa using c33))
        clear c33
        replace H := Option.bind_eq_some_iff.mp H
        obtain ⟨⟨t603, t604, t605, t608, t611, t612, t613, t616, t619⟩, A340, H⟩ := H
        replace H : ((laws_eqBatch.f t574 t575 t576 t579 t582 t583 t584 t587 t590 t603 t604 t605 t608 t611 t612 t613 t616 t619).bind fun t620 => (if t620 = true then ((laws_toLedger.f a2_0 a2_1 l2_2).bind fun bt621 => ((laws_eqLedger.f t592 t593 t594 bt621.1 bt621.2.1 bt621.2.2).bind fun t626 => (if t626 = true then (some true) else (none)))) else (none))) = some r := H
        have A34 := Aside0.mk A340
        clear A340
        replace H := Option.bind_eq_some_iff.mp H
        obtain ⟨t620, A350, H⟩ := H
        replace H : (if t620 = true then ((laws_toLedger.f a2_0 a2_1 l2_2).bind fun bt621 => ((laws_eqLedger.f t592 t593 t594 bt621.1 bt621.2.1 bt621.2.2).bind fun t626 => (if t626 = true then (some true) else (none)))) else (none)) = some r := H
        have A35 := Aside0.mk A350
        clear A350
        by_cases c36 : t620 = true
        · subst c36
          have H1 : ((laws_toLedger.f a2_0 a2_1 l2_2).bind fun bt621 => ((laws_eqLedger.f t592 t593 t594 bt621.1 bt621.2.1 bt621.2.2).bind fun t626 => (if t626 = true then (some true) else (none)))) = some r := by rw [if_pos rfl] at H; exact H
          clear H
          have H := H1
          clear H1
          replace H := Option.bind_eq_some_iff.mp H
          obtain ⟨⟨t621, t622, t623⟩, A370, H⟩ := H
          replace H : ((laws_eqLedger.f t592 t593 t594 t621 t622 t623).bind fun t626 => (if t626 = true then (some true) else (none))) = some r := H
          have A37 := Aside0.mk A370
          clear A370
          replace H := Option.bind_eq_some_iff.mp H
          obtain ⟨t626, A380, H⟩ := H
          replace H : (if t626 = true then (some true) else (none)) = some r := H
          have A38 := Aside0.mk A380
          clear A380
          by_cases c39 : t626 = true
          · subst c39
            have H1 : (some true) = some r := by rw [if_pos rfl] at H; exact H
            clear H
            have H := H1
            clear H1
            obtain rfl := Option.some.inj H
            go_enter Try.func4, Try.ntmps4
            try go_wp2_with (first | ((with_reducible refine gate_dst (N := 3) rfl ?_); refine box_event ?hg (N := 3) ?hd (cs := #[.int .i64 a0_0, .int .i64 a0_1, .int .i64 a0_2, .int .i64 a0_3]) (t := 43) ?hr ?_; (case hd => rfl); (case hg => rfl); (case hr => first | (go_simp; done) | (go_simp; rfl)); intro gb542 hg w40 hbox hb; have n0_ := Aside0.mk (below_step (by repeat (first | (with_reducible first | exact HB.out | apply below_alloc | apply pw_below_drewN | apply below_drew1) | exact HB.out)) hb); have n1_ := Aside0.mk (hbox); have n2_ := Aside0.mk ((by rw [hg]; exact (below_size (by repeat (first | (with_reducible first | exact HB.out | apply below_alloc | apply pw_below_drewN | apply below_drew1) | exact HB.out))) : w.heap.size ≤ gb542)); have n3_ := Aside0.mk ((by rw [hg]; exact (below_size (by repeat (first | (with_reducible first | exact HB.out | apply below_alloc | apply pw_below_drewN | apply below_drew1) | exact HB.out))) : w.heap.size ≤ gb542)); clear HB; have HB := n0_; have BK542 := n1_; have GW542 := n2_; have GE542 := n3_; clear n0_ n1_ n2_ n3_; clear hb hbox hg) | ((with_reducible refine gate_dst (N := 4) rfl ?_); refine box_event ?hg (N := 4) ?hd (cs := #[.int .i64 a1_0, .int .i64 a1_1, .slice A1_2 l1_2.length c1_2, .slice A1_3 l1_3.length c1_3, .int .i64 a1_4, .int .i64 a1_5, .slice A1_6 l1_6.length c1_6, .slice A1_7 l1_7.length c1_7, .int .i64 a1_8]) (t := 46) ?hr ?_; (case hd => rfl); (case hg => rfl); (case hr => first | (go_simp; done) | (go_simp; rfl)); intro gb543 hg w41 hbox hb; have n0_ := Aside0.mk (blk_below (g := gb542) (o := .cells #[.int .i64 a0_0, .int .i64 a0_1, .int .i64 a0_2, .int .i64 a0_3] 43 (0, 0)) (by (with_reducible repeat (first | refine blk_drewN ?_ _ | refine blk_drew ?_ | refine blk_alloc ?_ _)); exact BK542.out) hb); have n1_ := Aside0.mk (below_step (by repeat (first | (with_reducible first | exact HB.out | apply below_alloc | apply pw_below_drewN | apply below_drew1 | refine below_set ?_ GE542.out) | exact HB.out)) hb); have n2_ := Aside0.mk (hbox); have n3_ := Aside0.mk ((by rw [hg]; exact (below_size (by repeat (first | (with_reducible first | exact HB.out | apply below_alloc | apply pw_below_drewN | apply below_drew1 | refine below_set ?_ GE542.out) | exact HB.out))) : w.heap.size ≤ gb543)); have n4_ := Aside0.mk ((by rw [hg]; exact (below_size (by repeat (first | (with_reducible first | exact HB.out | apply below_alloc | apply pw_below_drewN | apply below_drew1 | refine below_set ?_ GE542.out) | exact HB.out))) : w.heap.size ≤ gb543)); have n5_ := Aside0.mk ((by rw [hg]; exact Nat.ne_of_lt (blk_lt (g := gb542) (o := .cells #[.int .i64 a0_0, .int .i64 a0_1, .int .i64 a0_2, .int .i64 a0_3] 43 (0, 0)) (by (with_reducible repeat (first | refine blk_drewN ?_ _ | refine blk_drew ?_ | refine blk_alloc ?_ _)); exact BK542.out)) : gb542 ≠ gb543)); have n6_ := Aside0.mk ((by rw [hg]; exact Nat.ne_of_gt (blk_lt (g := gb542) (o := .cells #[.int .i64 a0_0, .int .i64 a0_1, .int .i64 a0_2, .int .i64 a0_3] 43 (0, 0)) (by (with_reducible repeat (first | refine blk_drewN ?_ _ | refine blk_drew ?_ | refine blk_alloc ?_ _)); exact BK542.out)) : gb543 ≠ gb542)); clear BK542; clear HB; have BK542 := n0_; have HB := n1_; have BK543 := n2_; have GW543 := n3_; have GE543 := n4_; have NB542_543 := n5_; have NB543_542 := n6_; clear n0_ n1_ n2_ n3_ n4_ n5_ n6_; clear hb hbox hg) | ((with_reducible refine gate_dst (N := 5) rfl ?_); refine box_event ?hg (N := 5) ?hd (cs := #[.int .i64 a2_0, .int .i64 a2_1, .slice A2_2 l2_2.length c2_2]) (t := 49) ?hr ?_; (case hd => rfl); (case hg => rfl); (case hr => first | (go_simp; done) | (go_simp; rfl)); intro gb544 hg w42 hbox hb; have n0_ := Aside0.mk (blk_below (g := gb542) (o := .cells #[.int .i64 a0_0, .int .i64 a0_1, .int .i64 a0_2, .int .i64 a0_3] 43 (0, 0)) (by (with_reducible repeat (first | refine blk_drewN ?_ _ | refine blk_drew ?_ | refine blk_alloc ?_ _)); exact BK542.out) hb); have n1_ := Aside0.mk (blk_below (g := gb543) (o := .cells #[.int .i64 a1_0, .int .i64 a1_1, .slice A1_2 l1_2.length c1_2, .slice A1_3 l1_3.length c1_3, .int .i64 a1_4, .int .i64 a1_5, .slice A1_6 l1_6.length c1_6, .slice A1_7 l1_7.length c1_7, .int .i64 a1_8] 46 (0, 0)) (by (with_reducible repeat (first | refine blk_drewN ?_ _ | refine blk_drew ?_ | refine blk_alloc ?_ _)); exact BK543.out) hb); have n2_ := Aside0.mk (below_step (by repeat (first | (with_reducible first | exact HB.out | apply below_alloc | apply pw_below_drewN | apply below_drew1 | refine below_set ?_ GE542.out | refine below_set ?_ GE543.out) | exact HB.out)) hb); have n3_ := Aside0.mk (hbox); have n4_ := Aside0.mk ((by rw [hg]; exact (below_size (by repeat (first | (with_reducible first | exact HB.out | apply below_alloc | apply pw_below_drewN | apply below_drew1 | refine below_set ?_ GE542.out | refine below_set ?_ GE543.out) | exact HB.out))) : w.heap.size ≤ gb544)); have n5_ := Aside0.mk ((by rw [hg]; exact (below_size (by repeat (first | (with_reducible first | exact HB.out | apply below_alloc | apply pw_below_drewN | apply below_drew1 | refine below_set ?_ GE542.out | refine below_set ?_ GE543.out) | exact HB.out))) : w.heap.size ≤ gb544)); have n6_ := Aside0.mk ((by rw [hg]; exact Nat.ne_of_lt (blk_lt (g := gb542) (o := .cells #[.int .i64 a0_0, .int .i64 a0_1, .int .i64 a0_2, .int .i64 a0_3] 43 (0, 0)) (by (with_reducible repeat (first | refine blk_drewN ?_ _ | refine blk_drew ?_ | refine blk_alloc ?_ _)); exact BK542.out)) : gb542 ≠ gb544)); have n7_ := Aside0.mk ((by rw [hg]; exact Nat.ne_of_gt (blk_lt (g := gb542) (o := .cells #[.int .i64 a0_0, .int .i64 a0_1, .int .i64 a0_2, .int .i64 a0_3] 43 (0, 0)) (by (with_reducible repeat (first | refine blk_drewN ?_ _ | refine blk_drew ?_ | refine blk_alloc ?_ _)); exact BK542.out)) : gb544 ≠ gb542)); have n8_ := Aside0.mk ((by rw [hg]; exact Nat.ne_of_lt (blk_lt (g := gb543) (o := .cells #[.int .i64 a1_0, .int .i64 a1_1, .slice A1_2 l1_2.length c1_2, .slice A1_3 l1_3.length c1_3, .int .i64 a1_4, .int .i64 a1_5, .slice A1_6 l1_6.length c1_6, .slice A1_7 l1_7.length c1_7, .int .i64 a1_8] 46 (0, 0)) (by (with_reducible repeat (first | refine blk_drewN ?_ _ | refine blk_drew ?_ | refine blk_alloc ?_ _)); exact BK543.out)) : gb543 ≠ gb544)); have n9_ := Aside0.mk ((by rw [hg]; exact Nat.ne_of_gt (blk_lt (g := gb543) (o := .cells #[.int .i64 a1_0, .int .i64 a1_1, .slice A1_2 l1_2.length c1_2, .slice A1_3 l1_3.length c1_3, .int .i64 a1_4, .int .i64 a1_5, .slice A1_6 l1_6.length c1_6, .slice A1_7 l1_7.length c1_7, .int .i64 a1_8] 46 (0, 0)) (by (with_reducible repeat (first | refine blk_drewN ?_ _ | refine blk_drew ?_ | refine blk_alloc ?_ _)); exact BK543.out)) : gb544 ≠ gb543)); clear BK542; clear BK543; clear HB; have BK542 := n0_; have BK543 := n1_; have HB := n2_; have BK544 := n3_; have GW544 := n4_; have GE544 := n5_; have NB542_544 := n6_; have NB544_542 := n7_; have NB543_544 := n8_; have NB544_543 := n9_; clear n0_ n1_ n2_ n3_ n4_ n5_ n6_ n7_ n8_ n9_; clear hb hbox hg; have hnb43 := NB543_542.out; have hnc43 := NB542_543.out; have hnb44 := NB543_544.out; have hnc44 := NB544_543.out; have hcz45_0 : w42.cell? ⟨gb543, 0, none⟩ = some (.int .i64 a1_0) := (blk_cell BK543.out 0).trans rfl; have hcz45_1 : w42.cell? ⟨gb543, 1, none⟩ = some (.int .i64 a1_1) := (blk_cell BK543.out 1).trans rfl; have hcz45_2 : w42.cell? ⟨gb543, 2, none⟩ = some (.slice A1_2 l1_2.length c1_2) := (blk_cell BK543.out 2).trans rfl; have hcz45_3 : w42.cell? ⟨gb543, 3, none⟩ = some (.slice A1_3 l1_3.length c1_3) := (blk_cell BK543.out 3).trans rfl; have hcz45_4 : w42.cell? ⟨gb543, 4, none⟩ = some (.int .i64 a1_4) := (blk_cell BK543.out 4).trans rfl; have hcz45_5 : w42.cell? ⟨gb543, 5, none⟩ = some (.int .i64 a1_5) := (blk_cell BK543.out 5).trans rfl; have hcz45_6 : w42.cell? ⟨gb543, 6, none⟩ = some (.slice A1_6 l1_6.length c1_6) := (blk_cell BK543.out 6).trans rfl; have hcz45_7 : w42.cell? ⟨gb543, 7, none⟩ = some (.slice A1_7 l1_7.length c1_7) := (blk_cell BK543.out 7).trans rfl; have hcz45_8 : w42.cell? ⟨gb543, 8, none⟩ = some (.int .i64 a1_8) := (blk_cell BK543.out 8).trans rfl; have hfz45_0 := blk_frozen BK543.out 0; have hfz45_1 := blk_frozen BK543.out 1; have hfz45_2 := blk_frozen BK543.out 2; have hfz45_3 := blk_frozen BK543.out 3; have hfz45_4 := blk_frozen BK543.out 4; have hfz45_5 := blk_frozen BK543.out 5; have hfz45_6 := blk_frozen BK543.out 6; have hfz45_7 := blk_frozen BK543.out 7; have hfz45_8 := blk_frozen BK543.out 8) | ((with_reducible refine gate_callee (f := 11) rfl ?_); refine goesL_ (some 14) rfl rfl Try.func11 (by kernel_rfl) rfl #[.agg #[.int .i64 a1_0, .int .i64 a1_1, .slice A1_2 l1_2.length c1_2, .slice A1_3 l1_3.length c1_3, .int .i64 a1_4, .int .i64 a1_5, .slice A1_6 l1_6.length c1_6, .slice A1_7 l1_7.length c1_7, .int .i64 a1_8], .int .i64 1048576] rfl (by (try simp only [List.map_toArray, List.map_cons, List.map_nil]); first | done | rfl | (simp only [List.length_drop, List.length_take]; rfl)) ?_; (with_reducible refine (laws_szBatch.calls a1_0 a1_1 _ _ l1_2 _ _ l1_3 a1_4 a1_5 _ _ l1_6 _ _ l1_7 a1_8 1048576 t545 _ ?side1 ?side2 ?side3 ?side4 ?side5 ?side6 ?side7 ?side8 A4.out).mono ?_); (case side1 => repeat (first | exact (Kd.C_below HR1_2.out HB.out) | (with_reducible refine Kd.C_alloc ?_ _) | (with_reducible refine Kd.C_drewN ?_ _) | (with_reducible refine Kd.C_drew ?_))); (case side2 => exact HC1_2.out); (case side3 => repeat (first | exact (Kd.C_below HR1_3.out HB.out) | (with_reducible refine Kd.C_alloc ?_ _) | (with_reducible refine Kd.C_drewN ?_ _) | (with_reducible refine Kd.C_drew ?_))); (case side4 => exact HC1_3.out); (case side5 => repeat (first | exact (Kd.C_below HR1_6.out HB.out) | (with_reducible refine Kd.C_alloc ?_ _) | (with_reducible refine Kd.C_drewN ?_ _) | (with_reducible refine Kd.C_drew ?_))); (case side6 => exact HC1_6.out); (case side7 => repeat (first | exact (Kd.C_below HR1_7.out HB.out) | (with_reducible refine Kd.C_alloc ?_ _) | (with_reducible refine Kd.C_drewN ?_ _) | (with_reducible refine Kd.C_drew ?_))); (case side8 => exact HC1_7.out); rintro e w46 ⟨rfl, hb⟩; refine ⟨_, rfl, ?_⟩; have n0_ := Aside0.mk (blk_below (g := gb542) (o := .cells #[.int .i64 a0_0, .int .i64 a0_1, .int .i64 a0_2, .int .i64 a0_3] 43 (0, 0)) (by (with_reducible repeat (first | refine blk_drewN ?_ _ | refine blk_drew ?_ | refine blk_alloc ?_ _)); exact BK542.out) hb); have n1_ := Aside0.mk (blk_below (g := gb543) (o := .cells #[.int .i64 a1_0, .int .i64 a1_1, .slice A1_2 l1_2.length c1_2, .slice A1_3 l1_3.length c1_3, .int .i64 a1_4, .int .i64 a1_5, .slice A1_6 l1_6.length c1_6, .slice A1_7 l1_7.length c1_7, .int .i64 a1_8] 46 (0, 0)) (by (with_reducible repeat (first | refine blk_drewN ?_ _ | refine blk_drew ?_ | refine blk_alloc ?_ _)); exact BK543.out) hb); have n2_ := Aside0.mk (blk_below (g := gb544) (o := .cells #[.int .i64 a2_0, .int .i64 a2_1, .slice A2_2 l2_2.length c2_2] 49 (0, 0)) (by (with_reducible repeat (first | refine blk_drewN ?_ _ | refine blk_drew ?_ | refine blk_alloc ?_ _)); exact BK544.out) hb); have n3_ := Aside0.mk (below_step (by repeat (first | (with_reducible first | exact HB.out | apply below_alloc | apply pw_below_drewN | apply below_drew1 | refine below_set ?_ GE542.out | refine below_set ?_ GE543.out | refine below_set ?_ GE544.out) | exact HB.out)) hb); clear BK542; clear BK543; clear BK544; clear HB; have BK542 := n0_; have BK543 := n1_; have BK544 := n2_; have HB := n3_; clear n0_ n1_ n2_ n3_; (try clear hb); (try clear hb2); (try clear hk); (try clear hi); have hnb47 := NB544_542.out; have hnc47 := NB542_544.out; have hcz48_0 : w46.cell? ⟨gb544, 0, none⟩ = some (.int .i64 a2_0) := (blk_cell BK544.out 0).trans rfl; have hcz48_1 : w46.cell? ⟨gb544, 1, none⟩ = some (.int .i64 a2_1) := (blk_cell BK544.out 1).trans rfl; have hcz48_2 : w46.cell? ⟨gb544, 2, none⟩ = some (.slice A2_2 l2_2.length c2_2) := (blk_cell BK544.out 2).trans rfl; have hfz48_0 := blk_frozen BK544.out 0; have hfz48_1 := blk_frozen BK544.out 1; have hfz48_2 := blk_frozen BK544.out 2) | ((with_reducible refine gate_callee (f := 12) rfl ?_); refine goesL_ (some 19) rfl rfl Try.func12 (by kernel_rfl) rfl #[.agg #[.int .i64 a2_0, .int .i64 a2_1, .slice A2_2 l2_2.length c2_2], .int .i64 t545] rfl (by (try simp only [List.map_toArray, List.map_cons, List.map_nil]); first | done | rfl | (simp only [List.length_drop, List.length_take]; rfl)) ?_; (with_reducible refine (laws_szLedger.calls a2_0 a2_1 _ _ l2_2 t545 t546 _ ?side1 ?side2 A13.out).mono ?_); (case side1 => repeat (first | exact (Kd.C_below HR2_2.out HB.out) | (with_reducible refine Kd.C_alloc ?_ _) | (with_reducible refine Kd.C_drewN ?_ _) | (with_reducible refine Kd.C_drew ?_))); (case side2 => exact HC2_2.out); rintro e w49 ⟨rfl, hb⟩; refine ⟨_, rfl, ?_⟩; have n0_ := Aside0.mk (blk_below (g := gb542) (o := .cells #[.int .i64 a0_0, .int .i64 a0_1, .int .i64 a0_2, .int .i64 a0_3] 43 (0, 0)) (by (with_reducible repeat (first | refine blk_drewN ?_ _ | refine blk_drew ?_ | refine blk_alloc ?_ _)); exact BK542.out) hb); have n1_ := Aside0.mk (blk_below (g := gb543) (o := .cells #[.int .i64 a1_0, .int .i64 a1_1, .slice A1_2 l1_2.length c1_2, .slice A1_3 l1_3.length c1_3, .int .i64 a1_4, .int .i64 a1_5, .slice A1_6 l1_6.length c1_6, .slice A1_7 l1_7.length c1_7, .int .i64 a1_8] 46 (0, 0)) (by (with_reducible repeat (first | refine blk_drewN ?_ _ | refine blk_drew ?_ | refine blk_alloc ?_ _)); exact BK543.out) hb); have n2_ := Aside0.mk (blk_below (g := gb544) (o := .cells #[.int .i64 a2_0, .int .i64 a2_1, .slice A2_2 l2_2.length c2_2] 49 (0, 0)) (by (with_reducible repeat (first | refine blk_drewN ?_ _ | refine blk_drew ?_ | refine blk_alloc ?_ _)); exact BK544.out) hb); have n3_ := Aside0.mk (below_step (by repeat (first | (with_reducible first | exact HB.out | apply below_alloc | apply pw_below_drewN | apply below_drew1 | refine below_set ?_ GE542.out | refine below_set ?_ GE543.out | refine below_set ?_ GE544.out) | exact HB.out)) hb); clear BK542; clear BK543; clear BK544; clear HB; have BK542 := n0_; have BK543 := n1_; have BK544 := n2_; have HB := n3_; clear n0_ n1_ n2_ n3_; (try clear hb); (try clear hb2); (try clear hk); (try clear hi)))
            have n0_ := Aside0.mk (blk_drew BK542.out)
            have n1_ := Aside0.mk (blk_drew BK543.out)
            have n2_ := Aside0.mk (blk_drew BK544.out)
            have n3_ := Aside0.mk (below_drew1 HB.out)
            clear BK542
            clear BK543
            clear BK544
            clear HB
            have BK542 := n0_
            have BK543 := n1_
            have BK544 := n2_
            have HB := n3_
            clear n0_ n1_ n2_ n3_
            refine start_ (n := 8) (S := fun w' => w'.cell? ⟨gb542, 0, none⟩ = some (.int .i64 a0_0) ∧ w'.cell? ⟨gb542, 1, none⟩ = some (.int .i64 a0_1) ∧ w'.cell? ⟨gb542, 2, none⟩ = some (.int .i64 a0_2) ∧ w'.cell? ⟨gb542, 3, none⟩ = some (.int .i64 a0_3) ∧ w'.cell? ⟨gb543, 0, none⟩ = some (.int .i64 a1_0) ∧ w'.cell? ⟨gb543, 1, none⟩ = some (.int .i64 a1_1) ∧ w'.cell? ⟨gb543, 2, none⟩ = some (.slice A1_2 l1_2.length c1_2) ∧ w'.cell? ⟨gb543, 3, none⟩ = some (.slice A1_3 l1_3.length c1_3) ∧ w'.cell? ⟨gb543, 4, none⟩ = some (.int .i64 a1_4) ∧ w'.cell? ⟨gb543, 5, none⟩ = some (.int .i64 a1_5) ∧ w'.cell? ⟨gb543, 6, none⟩ = some (.slice A1_6 l1_6.length c1_6) ∧ w'.cell? ⟨gb543, 7, none⟩ = some (.slice A1_7 l1_7.length c1_7) ∧ w'.cell? ⟨gb543, 8, none⟩ = some (.int .i64 a1_8) ∧ w'.cell? ⟨gb544, 0, none⟩ = some (.int .i64 a2_0) ∧ w'.cell? ⟨gb544, 1, none⟩ = some (.int .i64 a2_1) ∧ w'.cell? ⟨gb544, 2, none⟩ = some (.slice A2_2 l2_2.length c2_2)) (ds := []) #[false, false, false, false, false, false, false, false] (by kernel_rfl) rfl rfl ⟨(blk_cell BK542.out 0).trans rfl, (blk_cell BK542.out 1).trans rfl, (blk_cell BK542.out 2).trans rfl, (blk_cell BK542.out 3).trans rfl, (blk_cell BK543.out 0).trans rfl, (blk_cell BK543.out 1).trans rfl, (blk_cell BK543.out 2).trans rfl, (blk_cell BK543.out 3).trans rfl, (blk_cell BK543.out 4).trans rfl, (blk_cell BK543.out 5).trans rfl, (blk_cell BK543.out 6).trans rfl, (blk_cell BK543.out 7).trans rfl, (blk_cell BK543.out 8).trans rfl, (blk_cell BK544.out 0).trans rfl, (blk_cell BK544.out 1).trans rfl, (blk_cell BK544.out 2).trans rfl⟩ (fun hHeld => ?_); refine with_tabW laws_FnExactAskMay.tab8 laws_FnExactAskMay.bits8 (fun HT_ HW_ => ?_)
            generalize w49.drew = w50 at BK542 BK543 BK544 HB hHeld ⊢
            refine take_ (i := 0) (N := some 22) (v := ?_) (a' := ?_) #[true, false, false, false, false, false, false, false] rfl rfl (take_ofW HT_.out HW_.out (by kernel_rfl)) (fun _ _ _ h => h) (Or.inl ⟨by rfl, ?_⟩) hHeld ?_ ?_
            rotate_left
            · rintro w' ⟨s0, s1, s2, s3, s4, s5, s6, s7, s8, s9, s10, s11, s12, s13, s14, s15⟩
              go_simp
              with_reducible rfl
            rotate_left
            · simp only [Act.put, List.setIfInBounds_toArray, List.set_cons_zero, List.set_cons_succ, i64_w, i32_w]
              rfl
            refine take_ (i := 2) (N := some 24) (v := ?_) (a' := ?_) #[true, false, true, false, false, false, false, false] rfl rfl (take_ofW HT_.out HW_.out (by kernel_rfl)) (fun _ _ _ h => h) (Or.inl ⟨by rfl, ?_⟩) hHeld ?_ ?_
            rotate_left
            · rintro w' ⟨s0, s1, s2, s3, s4, s5, s6, s7, s8, s9, s10, s11, s12, s13, s14, s15⟩
              go_simp
              with_reducible rfl
            rotate_left
            · simp only [Act.put, List.setIfInBounds_toArray, List.set_cons_zero, List.set_cons_succ, i64_w, i32_w]
              rfl
            refine take_ (i := 4) (N := some 26) (v := ?_) (a' := ?_) #[true, false, true, false, true, false, false, false] rfl rfl (take_ofW HT_.out HW_.out (by kernel_rfl)) (fun _ _ _ h => h) (Or.inl ⟨by rfl, ?_⟩) hHeld ?_ ?_
            rotate_left
            · rintro w' ⟨s0, s1, s2, s3, s4, s5, s6, s7, s8, s9, s10, s11, s12, s13, s14, s15⟩
              go_simp
              with_reducible rfl
            rotate_left
            · simp only [Act.put, List.setIfInBounds_toArray, List.set_cons_zero, List.set_cons_succ, i64_w, i32_w]
              rfl
            refine one_ (i := 1) (N := some 23) #[true, true, true, false, true, false, false, false] rfl rfl (one_of HT_.out (by kernel_rfl)) (by decide) (fun K hK => ?_)
            refine goes_ Try.func14 (by kernel_rfl) rfl #[.agg #[.int .i64 a0_0, .int .i64 a0_1, .int .i64 a0_2, .int .i64 a0_3]] (by rfl) rfl rfl (by (try simp only [List.map_toArray, List.map_cons, List.map_nil]); first | done | rfl | (simp only [List.length_drop, List.length_take]; rfl)) ?_
            with_reducible refine (laws_toAsk.calls a0_0 a0_1 a0_2 a0_3 t547 t548 t549 t550 _ A25.out).mono ?_
            rintro e w51 ⟨rfl, hb⟩
            refine ⟨_, rfl, ?_⟩
            have n0_ := Aside0.mk (blk_below (g := gb542) (o := .cells #[.int .i64 a0_0, .int .i64 a0_1, .int .i64 a0_2, .int .i64 a0_3] 43 (0, 0)) (by (with_reducible repeat (first | refine blk_drewN ?_ _ | refine blk_drew ?_ | refine blk_alloc ?_ _)); exact BK542.out) hb)
            have n1_ := Aside0.mk (blk_below (g := gb543) (o := .cells #[.int .i64 a1_0, .int .i64 a1_1, .slice A1_2 l1_2.length c1_2, .slice A1_3 l1_3.length c1_3, .int .i64 a1_4, .int .i64 a1_5, .slice A1_6 l1_6.length c1_6, .slice A1_7 l1_7.length c1_7, .int .i64 a1_8] 46 (0, 0)) (by (with_reducible repeat (first | refine blk_drewN ?_ _ | refine blk_drew ?_ | refine blk_alloc ?_ _)); exact BK543.out) hb)
            have n2_ := Aside0.mk (blk_below (g := gb544) (o := .cells #[.int .i64 a2_0, .int .i64 a2_1, .slice A2_2 l2_2.length c2_2] 49 (0, 0)) (by (with_reducible repeat (first | refine blk_drewN ?_ _ | refine blk_drew ?_ | refine blk_alloc ?_ _)); exact BK544.out) hb)
            have n3_ := Aside0.mk (below_step (by repeat (first | (with_reducible first | exact HB.out | apply below_alloc | apply pw_below_drewN | apply below_drew1 | refine below_set ?_ GE542.out | refine below_set ?_ GE543.out | refine below_set ?_ GE544.out) | exact HB.out)) hb)
            clear BK542
            clear BK543
            clear BK544
            clear HB
            have BK542 := n0_
            have BK543 := n1_
            have BK544 := n2_
            have HB := n3_
            clear n0_ n1_ n2_ n3_
            (try clear hb)
            (try clear hb2)
            (try clear hk)
            (try clear hi)
            refine hK.out _ _ ⟨(blk_cell BK542.out 0).trans rfl, (blk_cell BK542.out 1).trans rfl, (blk_cell BK542.out 2).trans rfl, (blk_cell BK542.out 3).trans rfl, (blk_cell BK543.out 0).trans rfl, (blk_cell BK543.out 1).trans rfl, (blk_cell BK543.out 2).trans rfl, (blk_cell BK543.out 3).trans rfl, (blk_cell BK543.out 4).trans rfl, (blk_cell BK543.out 5).trans rfl, (blk_cell BK543.out 6).trans rfl, (blk_cell BK543.out 7).trans rfl, (blk_cell BK543.out 8).trans rfl, (blk_cell BK544.out 0).trans rfl, (blk_cell BK544.out 1).trans rfl, (blk_cell BK544.out 2).trans rfl⟩ (fun hHeld => ?_)
            clear hK K
            refine norm_ (a' := ?_) ?_ ?_
            rotate_left
            · show Act.put _ (some 23) _ = _
              simp only [Act.put, List.setIfInBounds_toArray, List.set_cons_zero, List.set_cons_succ, i64_w, i32_w]
              rfl
            refine one_ (i := 3) (N := some 25) #[true, true, true, true, true, false, false, false] rfl rfl (one_of HT_.out (by kernel_rfl)) (by decide) (fun K hK => ?_)
            refine goes_ Try.func15 (by kernel_rfl) rfl #[.agg #[.int .i64 a1_0, .int .i64 a1_1, .slice A1_2 l1_2.length c1_2, .slice A1_3 l1_3.length c1_3, .int .i64 a1_4, .int .i64 a1_5, .slice A1_6 l1_6.length c1_6, .slice A1_7 l1_7.length c1_7, .int .i64 a1_8]] (by rfl) rfl rfl (by (try simp only [List.map_toArray, List.map_cons, List.map_nil]); first | done | rfl | (simp only [List.length_drop, List.length_take]; rfl)) ?_
            with_reducible refine (laws_toBatch.calls a1_0 a1_1 _ _ l1_2 _ _ l1_3 a1_4 a1_5 _ _ l1_6 _ _ l1_7 a1_8 t551 t552 t553 t556 t559 t560 t561 t564 t567 _ ?side1 ?side2 ?side3 ?side4 ?side5 ?side6 ?side7 ?side8 A26.out).mono ?_
            (case side1 => repeat (first | exact (Kd.C_below HR1_2.out HB.out) | (with_reducible refine Kd.C_alloc ?_ _) | (with_reducible refine Kd.C_drewN ?_ _) | (with_reducible refine Kd.C_drew ?_)))
            (case side2 => exact HC1_2.out)
            (case side3 => repeat (first | exact (Kd.C_below HR1_3.out HB.out) | (with_reducible refine Kd.C_alloc ?_ _) | (with_reducible refine Kd.C_drewN ?_ _) | (with_reducible refine Kd.C_drew ?_)))
            (case side4 => exact HC1_3.out)
            (case side5 => repeat (first | exact (Kd.C_below HR1_6.out HB.out) | (with_reducible refine Kd.C_alloc ?_ _) | (with_reducible refine Kd.C_drewN ?_ _) | (with_reducible refine Kd.C_drew ?_)))
            (case side6 => exact HC1_6.out)
            (case side7 => repeat (first | exact (Kd.C_below HR1_7.out HB.out) | (with_reducible refine Kd.C_alloc ?_ _) | (with_reducible refine Kd.C_drewN ?_ _) | (with_reducible refine Kd.C_drew ?_)))
            (case side8 => exact HC1_7.out)
            rintro e w52 ⟨v554, v557, v562, v565, rfl, ho0, ho1, ho2, ho3, hb⟩
            refine ⟨_, rfl, ?_⟩
            have n0_ := Aside0.mk (Kd.R_lower ho0 (below_size (by repeat (first | (with_reducible first | exact HB.out | apply below_alloc | apply pw_below_drewN | apply below_drew1 | refine below_set ?_ GE542.out | refine below_set ?_ GE543.out | refine below_set ?_ GE544.out) | exact HB.out))))
            have n1_ := Aside0.mk (Kd.R_lower ho1 (below_size (by repeat (first | (with_reducible first | exact HB.out | apply below_alloc | apply pw_below_drewN | apply below_drew1 | refine below_set ?_ GE542.out | refine below_set ?_ GE543.out | refine below_set ?_ GE544.out) | exact HB.out))))
            have n2_ := Aside0.mk (Kd.R_lower ho2 (below_size (by repeat (first | (with_reducible first | exact HB.out | apply below_alloc | apply pw_below_drewN | apply below_drew1 | refine below_set ?_ GE542.out | refine below_set ?_ GE543.out | refine below_set ?_ GE544.out) | exact HB.out))))
            have n3_ := Aside0.mk (Kd.R_lower ho3 (below_size (by repeat (first | (with_reducible first | exact HB.out | apply below_alloc | apply pw_below_drewN | apply below_drew1 | refine below_set ?_ GE542.out | refine below_set ?_ GE543.out | refine below_set ?_ GE544.out) | exact HB.out))))
            have n4_ := Aside0.mk (blk_below (g := gb542) (o := .cells #[.int .i64 a0_0, .int .i64 a0_1, .int .i64 a0_2, .int .i64 a0_3] 43 (0, 0)) (by (with_reducible repeat (first | refine blk_drewN ?_ _ | refine blk_drew ?_ | refine blk_alloc ?_ _)); exact BK542.out) hb)
            have n5_ := Aside0.mk (blk_below (g := gb543) (o := .cells #[.int .i64 a1_0, .int .i64 a1_1, .slice A1_2 l1_2.length c1_2, .slice A1_3 l1_3.length c1_3, .int .i64 a1_4, .int .i64 a1_5, .slice A1_6 l1_6.length c1_6, .slice A1_7 l1_7.length c1_7, .int .i64 a1_8] 46 (0, 0)) (by (with_reducible repeat (first | refine blk_drewN ?_ _ | refine blk_drew ?_ | refine blk_alloc ?_ _)); exact BK543.out) hb)
            have n6_ := Aside0.mk (blk_below (g := gb544) (o := .cells #[.int .i64 a2_0, .int .i64 a2_1, .slice A2_2 l2_2.length c2_2] 49 (0, 0)) (by (with_reducible repeat (first | refine blk_drewN ?_ _ | refine blk_drew ?_ | refine blk_alloc ?_ _)); exact BK544.out) hb)
            have n7_ := Aside0.mk (below_step (by repeat (first | (with_reducible first | exact HB.out | apply below_alloc | apply pw_below_drewN | apply below_drew1 | refine below_set ?_ GE542.out | refine below_set ?_ GE543.out | refine below_set ?_ GE544.out) | exact HB.out)) hb)
            clear BK542
            clear BK543
            clear BK544
            clear HB
            have HO555 := n0_
            have HO558 := n1_
            have HO563 := n2_
            have HO566 := n3_
            have BK542 := n4_
            have BK543 := n5_
            have BK544 := n6_
            have HB := n7_
            clear n0_ n1_ n2_ n3_ n4_ n5_ n6_ n7_
            (try clear hb)
            (try clear hb2)
            (try clear hk)
            (try clear hi)
            (try clear ho0)
            (try clear ho1)
            (try clear ho2)
            (try clear ho3)
            refine hK.out _ _ ⟨(blk_cell BK542.out 0).trans rfl, (blk_cell BK542.out 1).trans rfl, (blk_cell BK542.out 2).trans rfl, (blk_cell BK542.out 3).trans rfl, (blk_cell BK543.out 0).trans rfl, (blk_cell BK543.out 1).trans rfl, (blk_cell BK543.out 2).trans rfl, (blk_cell BK543.out 3).trans rfl, (blk_cell BK543.out 4).trans rfl, (blk_cell BK543.out 5).trans rfl, (blk_cell BK543.out 6).trans rfl, (blk_cell BK543.out 7).trans rfl, (blk_cell BK543.out 8).trans rfl, (blk_cell BK544.out 0).trans rfl, (blk_cell BK544.out 1).trans rfl, (blk_cell BK544.out 2).trans rfl⟩ (fun hHeld => ?_)
            clear hK K
            refine norm_ (a' := ?_) ?_ ?_
            rotate_left
            · show Act.put _ (some 25) _ = _
              simp only [Act.put, List.setIfInBounds_toArray, List.set_cons_zero, List.set_cons_succ, i64_w, i32_w]
              rfl
            refine one_ (i := 5) (N := some 27) #[true, true, true, true, true, true, false, false] rfl rfl (one_of HT_.out (by kernel_rfl)) (by decide) (fun K hK => ?_)
            refine goes_ Try.func16 (by kernel_rfl) rfl #[.agg #[.int .i64 a2_0, .int .i64 a2_1, .slice A2_2 l2_2.length c2_2]] (by rfl) rfl rfl (by (try simp only [List.map_toArray, List.map_cons, List.map_nil]); first | done | rfl | (simp only [List.length_drop, List.length_take]; rfl)) ?_
            with_reducible refine (laws_toLedger.calls a2_0 a2_1 _ _ l2_2 t568 t569 t570 _ ?side1 ?side2 A27.out).mono ?_
            (case side1 => repeat (first | exact (Kd.C_below HR2_2.out HB.out) | (with_reducible refine Kd.C_alloc ?_ _) | (with_reducible refine Kd.C_drewN ?_ _) | (with_reducible refine Kd.C_drew ?_)))
            (case side2 => exact HC2_2.out)
            rintro e w53 ⟨v571, rfl, ho0, hb⟩
            refine ⟨_, rfl, ?_⟩
            have n0_ := Aside0.mk (Kd.R_below (by (with_reducible repeat (first | apply Kd.R_alloc | apply Kd.R_drewN | apply Kd.R_drew)); exact HO555.out) hb)
            have n1_ := Aside0.mk (Kd.R_below (by (with_reducible repeat (first | apply Kd.R_alloc | apply Kd.R_drewN | apply Kd.R_drew)); exact HO558.out) hb)
            have n2_ := Aside0.mk (Kd.R_below (by (with_reducible repeat (first | apply Kd.R_alloc | apply Kd.R_drewN | apply Kd.R_drew)); exact HO563.out) hb)
            have n3_ := Aside0.mk (Kd.R_below (by (with_reducible repeat (first | apply Kd.R_alloc | apply Kd.R_drewN | apply Kd.R_drew)); exact HO566.out) hb)
            have n4_ := Aside0.mk (Kd.R_lower ho0 (below_size (by repeat (first | (with_reducible first | exact HB.out | apply below_alloc | apply pw_below_drewN | apply below_drew1 | refine below_set ?_ GE542.out | refine below_set ?_ GE543.out | refine below_set ?_ GE544.out) | exact HB.out))))
            have n5_ := Aside0.mk (blk_below (g := gb542) (o := .cells #[.int .i64 a0_0, .int .i64 a0_1, .int .i64 a0_2, .int .i64 a0_3] 43 (0, 0)) (by (with_reducible repeat (first | refine blk_drewN ?_ _ | refine blk_drew ?_ | refine blk_alloc ?_ _)); exact BK542.out) hb)
            have n6_ := Aside0.mk (blk_below (g := gb543) (o := .cells #[.int .i64 a1_0, .int .i64 a1_1, .slice A1_2 l1_2.length c1_2, .slice A1_3 l1_3.length c1_3, .int .i64 a1_4, .int .i64 a1_5, .slice A1_6 l1_6.length c1_6, .slice A1_7 l1_7.length c1_7, .int .i64 a1_8] 46 (0, 0)) (by (with_reducible repeat (first | refine blk_drewN ?_ _ | refine blk_drew ?_ | refine blk_alloc ?_ _)); exact BK543.out) hb)
            have n7_ := Aside0.mk (blk_below (g := gb544) (o := .cells #[.int .i64 a2_0, .int .i64 a2_1, .slice A2_2 l2_2.length c2_2] 49 (0, 0)) (by (with_reducible repeat (first | refine blk_drewN ?_ _ | refine blk_drew ?_ | refine blk_alloc ?_ _)); exact BK544.out) hb)
            have n8_ := Aside0.mk (below_step (by repeat (first | (with_reducible first | exact HB.out | apply below_alloc | apply pw_below_drewN | apply below_drew1 | refine below_set ?_ GE542.out | refine below_set ?_ GE543.out | refine below_set ?_ GE544.out) | exact HB.out)) hb)
            clear HO555
            clear HO558
            clear HO563
            clear HO566
            clear BK542
            clear BK543
            clear BK544
            clear HB
            have HO555 := n0_
            have HO558 := n1_
            have HO563 := n2_
            have HO566 := n3_
            have HO572 := n4_
            have BK542 := n5_
            have BK543 := n6_
            have BK544 := n7_
            have HB := n8_
            clear n0_ n1_ n2_ n3_ n4_ n5_ n6_ n7_ n8_
            (try clear hb)
            (try clear hb2)
            (try clear hk)
            (try clear hi)
            (try clear ho0)
            obtain ⟨Ao54, co54, eo54⟩ := Kd.R_slice HO555.out
            (first | subst eo54 | (injection eo54 with f1_ f2_ f3_; have f4_ := f1_.symm; have f5_ := f3_.symm; clear f1_ f2_ f3_; subst f4_; subst f5_))
            obtain ⟨Ao55, co55, eo55⟩ := Kd.R_slice HO558.out
            (first | subst eo55 | (injection eo55 with f1_ f2_ f3_; have f4_ := f1_.symm; have f5_ := f3_.symm; clear f1_ f2_ f3_; subst f4_; subst f5_))
            obtain ⟨Ao56, co56, eo56⟩ := Kd.R_slice HO563.out
            (first | subst eo56 | (injection eo56 with f1_ f2_ f3_; have f4_ := f1_.symm; have f5_ := f3_.symm; clear f1_ f2_ f3_; subst f4_; subst f5_))
            obtain ⟨Ao57, co57, eo57⟩ := Kd.R_slice HO566.out
            (first | subst eo57 | (injection eo57 with f1_ f2_ f3_; have f4_ := f1_.symm; have f5_ := f3_.symm; clear f1_ f2_ f3_; subst f4_; subst f5_))
            obtain ⟨Ao58, co58, eo58⟩ := Kd.R_slice HO572.out
            (first | subst eo58 | (injection eo58 with f1_ f2_ f3_; have f4_ := f1_.symm; have f5_ := f3_.symm; clear f1_ f2_ f3_; subst f4_; subst f5_))
            refine hK.out _ _ ⟨(blk_cell BK542.out 0).trans rfl, (blk_cell BK542.out 1).trans rfl, (blk_cell BK542.out 2).trans rfl, (blk_cell BK542.out 3).trans rfl, (blk_cell BK543.out 0).trans rfl, (blk_cell BK543.out 1).trans rfl, (blk_cell BK543.out 2).trans rfl, (blk_cell BK543.out 3).trans rfl, (blk_cell BK543.out 4).trans rfl, (blk_cell BK543.out 5).trans rfl, (blk_cell BK543.out 6).trans rfl, (blk_cell BK543.out 7).trans rfl, (blk_cell BK543.out 8).trans rfl, (blk_cell BK544.out 0).trans rfl, (blk_cell BK544.out 1).trans rfl, (blk_cell BK544.out 2).trans rfl⟩ (fun hHeld => ?_)
            clear hK K
            refine norm_ (a' := ?_) ?_ ?_
            rotate_left
            · show Act.put _ (some 27) _ = _
              simp only [Act.put, List.setIfInBounds_toArray, List.set_cons_zero, List.set_cons_succ, i64_w, i32_w]
              rfl
            refine one_ (i := 6) (N := some 28) #[true, true, true, true, true, true, true, false] rfl rfl (one_of HT_.out (by kernel_rfl)) (by decide) (fun K hK => ?_)
            refine goes_ Try.func13 (by kernel_rfl) rfl #[.agg #[.int .i64 t547, .int .i64 t548, .int .i64 t549, .int .i64 t550], .agg #[.int .i64 t551, .int .i64 t552, .slice Ao54 t553.length co54, .slice Ao55 t556.length co55, .int .i64 t559, .int .i64 t560, .slice Ao56 t561.length co56, .slice Ao57 t564.length co57, .int .i64 t567], .agg #[.int .i64 t568, .int .i64 t569, .slice Ao58 t570.length co58]] (by rfl) rfl rfl (by (try simp only [List.map_toArray, List.map_cons, List.map_nil]); first | done | rfl | (simp only [List.length_drop, List.length_take]; rfl)) ?_
            with_reducible refine (spec_AskMay.calls t547 t548 t549 t550 t551 t552 _ _ t553 _ _ t556 t559 t560 _ _ t561 _ _ t564 t567 t568 t569 _ _ t570 t573 _ ?side1 ?side2 ?side3 ?side4 ?side5 ?side6 ?side7 ?side8 ?side9 ?side10 A28.out).mono ?_
            (case side1 => repeat (first | exact (Kd.R_reads' HO555.out).2.2 | (with_reducible refine Kd.C_alloc ?_ _) | (with_reducible refine Kd.C_drewN ?_ _) | (with_reducible refine Kd.C_drew ?_)))
            (case side2 => exact (Kd.R_reads' HO555.out).2.1)
            (case side3 => repeat (first | exact (Kd.R_reads' HO558.out).2.2 | (with_reducible refine Kd.C_alloc ?_ _) | (with_reducible refine Kd.C_drewN ?_ _) | (with_reducible refine Kd.C_drew ?_)))
            (case side4 => exact (Kd.R_reads' HO558.out).2.1)
            (case side5 => repeat (first | exact (Kd.R_reads' HO563.out).2.2 | (with_reducible refine Kd.C_alloc ?_ _) | (with_reducible refine Kd.C_drewN ?_ _) | (with_reducible refine Kd.C_drew ?_)))
            (case side6 => exact (Kd.R_reads' HO563.out).2.1)
            (case side7 => repeat (first | exact (Kd.R_reads' HO566.out).2.2 | (with_reducible refine Kd.C_alloc ?_ _) | (with_reducible refine Kd.C_drewN ?_ _) | (with_reducible refine Kd.C_drew ?_)))
            (case side8 => exact (Kd.R_reads' HO566.out).2.1)
            (case side9 => repeat (first | exact (Kd.R_reads' HO572.out).2.2 | (with_reducible refine Kd.C_alloc ?_ _) | (with_reducible refine Kd.C_drewN ?_ _) | (with_reducible refine Kd.C_drew ?_)))
            (case side10 => exact (Kd.R_reads' HO572.out).2.1)
            rintro e w59 ⟨rfl, hb⟩
            refine ⟨_, rfl, ?_⟩
            have n0_ := Aside0.mk (Kd.R_below (by (with_reducible repeat (first | apply Kd.R_alloc | apply Kd.R_drewN | apply Kd.R_drew)); exact HO555.out) hb)
            have n1_ := Aside0.mk (Kd.R_below (by (with_reducible repeat (first | apply Kd.R_alloc | apply Kd.R_drewN | apply Kd.R_drew)); exact HO558.out) hb)
            have n2_ := Aside0.mk (Kd.R_below (by (with_reducible repeat (first | apply Kd.R_alloc | apply Kd.R_drewN | apply Kd.R_drew)); exact HO563.out) hb)
            have n3_ := Aside0.mk (Kd.R_below (by (with_reducible repeat (first | apply Kd.R_alloc | apply Kd.R_drewN | apply Kd.R_drew)); exact HO566.out) hb)
            have n4_ := Aside0.mk (Kd.R_below (by (with_reducible repeat (first | apply Kd.R_alloc | apply Kd.R_drewN | apply Kd.R_drew)); exact HO572.out) hb)
            have n5_ := Aside0.mk (blk_below (g := gb542) (o := .cells #[.int .i64 a0_0, .int .i64 a0_1, .int .i64 a0_2, .int .i64 a0_3] 43 (0, 0)) (by (with_reducible repeat (first | refine blk_drewN ?_ _ | refine blk_drew ?_ | refine blk_alloc ?_ _)); exact BK542.out) hb)
            have n6_ := Aside0.mk (blk_below (g := gb543) (o := .cells #[.int .i64 a1_0, .int .i64 a1_1, .slice A1_2 l1_2.length c1_2, .slice A1_3 l1_3.length c1_3, .int .i64 a1_4, .int .i64 a1_5, .slice A1_6 l1_6.length c1_6, .slice A1_7 l1_7.length c1_7, .int .i64 a1_8] 46 (0, 0)) (by (with_reducible repeat (first | refine blk_drewN ?_ _ | refine blk_drew ?_ | refine blk_alloc ?_ _)); exact BK543.out) hb)
            have n7_ := Aside0.mk (blk_below (g := gb544) (o := .cells #[.int .i64 a2_0, .int .i64 a2_1, .slice A2_2 l2_2.length c2_2] 49 (0, 0)) (by (with_reducible repeat (first | refine blk_drewN ?_ _ | refine blk_drew ?_ | refine blk_alloc ?_ _)); exact BK544.out) hb)
            have n8_ := Aside0.mk (below_step (by repeat (first | (with_reducible first | exact HB.out | apply below_alloc | apply pw_below_drewN | apply below_drew1 | refine below_set ?_ GE542.out | refine below_set ?_ GE543.out | refine below_set ?_ GE544.out) | exact HB.out)) hb)
            clear HO555
            clear HO558
            clear HO563
            clear HO566
            clear HO572
            clear BK542
            clear BK543
            clear BK544
            clear HB
            have HO555 := n0_
            have HO558 := n1_
            have HO563 := n2_
            have HO566 := n3_
            have HO572 := n4_
            have BK542 := n5_
            have BK543 := n6_
            have BK544 := n7_
            have HB := n8_
            clear n0_ n1_ n2_ n3_ n4_ n5_ n6_ n7_ n8_
            (try clear hb)
            (try clear hb2)
            (try clear hk)
            (try clear hi)
            refine hK.out _ _ ⟨(blk_cell BK542.out 0).trans rfl, (blk_cell BK542.out 1).trans rfl, (blk_cell BK542.out 2).trans rfl, (blk_cell BK542.out 3).trans rfl, (blk_cell BK543.out 0).trans rfl, (blk_cell BK543.out 1).trans rfl, (blk_cell BK543.out 2).trans rfl, (blk_cell BK543.out 3).trans rfl, (blk_cell BK543.out 4).trans rfl, (blk_cell BK543.out 5).trans rfl, (blk_cell BK543.out 6).trans rfl, (blk_cell BK543.out 7).trans rfl, (blk_cell BK543.out 8).trans rfl, (blk_cell BK544.out 0).trans rfl, (blk_cell BK544.out 1).trans rfl, (blk_cell BK544.out 2).trans rfl⟩ (fun hHeld => ?_)
            clear hK K
            refine norm_ (a' := ?_) ?_ ?_
            rotate_left
            · show Act.put _ (some 28) _ = _
              simp only [Act.put, List.setIfInBounds_toArray, List.set_cons_zero, List.set_cons_succ, i64_w, i32_w]
              rfl
            refine pure_ (i := 7) (N := some 8) (v := ?_) (a' := ?_) #[true, true, true, true, true, true, true, true] rfl rfl (any_of HT_.out (by kernel_rfl)) (fun _ _ _ h => h) (Or.inl ⟨by rfl, ?_⟩) ?_ ?_
            rotate_left
            · intro w'
              go_simp
              with_reducible rfl
            rotate_left
            · simp only [Act.put, List.setIfInBounds_toArray, List.set_cons_zero, List.set_cons_succ, i64_w, i32_w]
              rfl
            refine done_ (done_of HT_.out (by kernel_rfl)) ?_
            have hcz60_0 : w59.cell? ⟨gb543, 0, none⟩ = some (.int .i64 a1_0) := (blk_cell BK543.out 0).trans rfl
            have hcz60_1 : w59.cell? ⟨gb543, 1, none⟩ = some (.int .i64 a1_1) := (blk_cell BK543.out 1).trans rfl
            have hcz60_2 : w59.cell? ⟨gb543, 2, none⟩ = some (.slice A1_2 l1_2.length c1_2) := (blk_cell BK543.out 2).trans rfl
            have hcz60_3 : w59.cell? ⟨gb543, 3, none⟩ = some (.slice A1_3 l1_3.length c1_3) := (blk_cell BK543.out 3).trans rfl
            have hcz60_4 : w59.cell? ⟨gb543, 4, none⟩ = some (.int .i64 a1_4) := (blk_cell BK543.out 4).trans rfl
            have hcz60_5 : w59.cell? ⟨gb543, 5, none⟩ = some (.int .i64 a1_5) := (blk_cell BK543.out 5).trans rfl
            have hcz60_6 : w59.cell? ⟨gb543, 6, none⟩ = some (.slice A1_6 l1_6.length c1_6) := (blk_cell BK543.out 6).trans rfl
            have hcz60_7 : w59.cell? ⟨gb543, 7, none⟩ = some (.slice A1_7 l1_7.length c1_7) := (blk_cell BK543.out 7).trans rfl
            have hcz60_8 : w59.cell? ⟨gb543, 8, none⟩ = some (.int .i64 a1_8) := (blk_cell BK543.out 8).trans rfl
            have hfz60_0 := blk_frozen BK543.out 0
            have hfz60_1 := blk_frozen BK543.out 1
            have hfz60_2 := blk_frozen BK543.out 2
            have hfz60_3 := blk_frozen BK543.out 3
            have hfz60_4 := blk_frozen BK543.out 4
            have hfz60_5 := blk_frozen BK543.out 5
            have hfz60_6 := blk_frozen BK543.out 6
            have hfz60_7 := blk_frozen BK543.out 7
            have hfz60_8 := blk_frozen BK543.out 8
            try go_wp2_with (first | ((with_reducible refine gate_callee (f := 15) rfl ?_); refine goesL_ (some 30) rfl rfl Try.func15 (by kernel_rfl) rfl #[.agg #[.int .i64 a1_0, .int .i64 a1_1, .slice A1_2 l1_2.length c1_2, .slice A1_3 l1_3.length c1_3, .int .i64 a1_4, .int .i64 a1_5, .slice A1_6 l1_6.length c1_6, .slice A1_7 l1_7.length c1_7, .int .i64 a1_8]] rfl (by (try simp only [List.map_toArray, List.map_cons, List.map_nil]); first | done | rfl | (simp only [List.length_drop, List.length_take]; rfl)) ?_; (with_reducible refine (laws_toBatch.calls a1_0 a1_1 _ _ l1_2 _ _ l1_3 a1_4 a1_5 _ _ l1_6 _ _ l1_7 a1_8 t574 t575 t576 t579 t582 t583 t584 t587 t590 _ ?side1 ?side2 ?side3 ?side4 ?side5 ?side6 ?side7 ?side8 A29.out).mono ?_); (case side1 => repeat (first | exact (Kd.C_below HR1_2.out HB.out) | (with_reducible refine Kd.C_alloc ?_ _) | (with_reducible refine Kd.C_drewN ?_ _) | (with_reducible refine Kd.C_drew ?_))); (case side2 => exact HC1_2.out); (case side3 => repeat (first | exact (Kd.C_below HR1_3.out HB.out) | (with_reducible refine Kd.C_alloc ?_ _) | (with_reducible refine Kd.C_drewN ?_ _) | (with_reducible refine Kd.C_drew ?_))); (case side4 => exact HC1_3.out); (case side5 => repeat (first | exact (Kd.C_below HR1_6.out HB.out) | (with_reducible refine Kd.C_alloc ?_ _) | (with_reducible refine Kd.C_drewN ?_ _) | (with_reducible refine Kd.C_drew ?_))); (case side6 => exact HC1_6.out); (case side7 => repeat (first | exact (Kd.C_below HR1_7.out HB.out) | (with_reducible refine Kd.C_alloc ?_ _) | (with_reducible refine Kd.C_drewN ?_ _) | (with_reducible refine Kd.C_drew ?_))); (case side8 => exact HC1_7.out); rintro e w61 ⟨v577, v580, v585, v588, rfl, ho0, ho1, ho2, ho3, hb⟩; refine ⟨_, rfl, ?_⟩; have n0_ := Aside0.mk (Kd.R_mono (Kd.R_told (Kd.R_told (Kd.R_told (Kd.R_told (Kd.R_old (by (with_reducible repeat (first | apply Kd.R_alloc | apply Kd.R_drewN | apply Kd.R_drew)); exact HO555.out) hb) (Kd.R_base ho0)) (Kd.R_base ho1)) (Kd.R_base ho2)) (Kd.R_base ho3)) (fun _ h_ => h_.1)); have n1_ := Aside0.mk (Kd.R_mono (Kd.R_told (Kd.R_told (Kd.R_told (Kd.R_told (Kd.R_old (by (with_reducible repeat (first | apply Kd.R_alloc | apply Kd.R_drewN | apply Kd.R_drew)); exact HO558.out) hb) (Kd.R_base ho0)) (Kd.R_base ho1)) (Kd.R_base ho2)) (Kd.R_base ho3)) (fun _ h_ => h_.1)); have n2_ := Aside0.mk (Kd.R_mono (Kd.R_told (Kd.R_told (Kd.R_told (Kd.R_told (Kd.R_old (by (with_reducible repeat (first | apply Kd.R_alloc | apply Kd.R_drewN | apply Kd.R_drew)); exact HO563.out) hb) (Kd.R_base ho0)) (Kd.R_base ho1)) (Kd.R_base ho2)) (Kd.R_base ho3)) (fun _ h_ => h_.1)); have n3_ := Aside0.mk (Kd.R_mono (Kd.R_told (Kd.R_told (Kd.R_told (Kd.R_told (Kd.R_old (by (with_reducible repeat (first | apply Kd.R_alloc | apply Kd.R_drewN | apply Kd.R_drew)); exact HO566.out) hb) (Kd.R_base ho0)) (Kd.R_base ho1)) (Kd.R_base ho2)) (Kd.R_base ho3)) (fun _ h_ => h_.1)); have n4_ := Aside0.mk (Kd.R_below (by (with_reducible repeat (first | apply Kd.R_alloc | apply Kd.R_drewN | apply Kd.R_drew)); exact HO572.out) hb); have n5_ := Aside0.mk (Kd.R_lower (Kd.R_new' (Kd.R_new' (Kd.R_new' (Kd.R_new' ho0 (Kd.R_lt (by (with_reducible repeat (first | apply Kd.R_alloc | apply Kd.R_drewN | apply Kd.R_drew)); exact HO555.out))) (Kd.R_lt (by (with_reducible repeat (first | apply Kd.R_alloc | apply Kd.R_drewN | apply Kd.R_drew)); exact HO558.out))) (Kd.R_lt (by (with_reducible repeat (first | apply Kd.R_alloc | apply Kd.R_drewN | apply Kd.R_drew)); exact HO563.out))) (Kd.R_lt (by (with_reducible repeat (first | apply Kd.R_alloc | apply Kd.R_drewN | apply Kd.R_drew)); exact HO566.out))) (below_size (by repeat (first | (with_reducible first | exact HB.out | apply below_alloc | apply pw_below_drewN | apply below_drew1 | refine below_set ?_ GE542.out | refine below_set ?_ GE543.out | refine below_set ?_ GE544.out) | exact HB.out)))); have n6_ := Aside0.mk (Kd.R_lower (Kd.R_new' (Kd.R_new' (Kd.R_new' (Kd.R_new' ho1 (Kd.R_lt (by (with_reducible repeat (first | apply Kd.R_alloc | apply Kd.R_drewN | apply Kd.R_drew)); exact HO555.out))) (Kd.R_lt (by (with_reducible repeat (first | apply Kd.R_alloc | apply Kd.R_drewN | apply Kd.R_drew)); exact HO558.out))) (Kd.R_lt (by (with_reducible repeat (first | apply Kd.R_alloc | apply Kd.R_drewN | apply Kd.R_drew)); exact HO563.out))) (Kd.R_lt (by (with_reducible repeat (first | apply Kd.R_alloc | apply Kd.R_drewN | apply Kd.R_drew)); exact HO566.out))) (below_size (by repeat (first | (with_reducible first | exact HB.out | apply below_alloc | apply pw_below_drewN | apply below_drew1 | refine below_set ?_ GE542.out | refine below_set ?_ GE543.out | refine below_set ?_ GE544.out) | exact HB.out)))); have n7_ := Aside0.mk (Kd.R_lower (Kd.R_new' (Kd.R_new' (Kd.R_new' (Kd.R_new' ho2 (Kd.R_lt (by (with_reducible repeat (first | apply Kd.R_alloc | apply Kd.R_drewN | apply Kd.R_drew)); exact HO555.out))) (Kd.R_lt (by (with_reducible repeat (first | apply Kd.R_alloc | apply Kd.R_drewN | apply Kd.R_drew)); exact HO558.out))) (Kd.R_lt (by (with_reducible repeat (first | apply Kd.R_alloc | apply Kd.R_drewN | apply Kd.R_drew)); exact HO563.out))) (Kd.R_lt (by (with_reducible repeat (first | apply Kd.R_alloc | apply Kd.R_drewN | apply Kd.R_drew)); exact HO566.out))) (below_size (by repeat (first | (with_reducible first | exact HB.out | apply below_alloc | apply pw_below_drewN | apply below_drew1 | refine below_set ?_ GE542.out | refine below_set ?_ GE543.out | refine below_set ?_ GE544.out) | exact HB.out)))); have n8_ := Aside0.mk (Kd.R_lower (Kd.R_new' (Kd.R_new' (Kd.R_new' (Kd.R_new' ho3 (Kd.R_lt (by (with_reducible repeat (first | apply Kd.R_alloc | apply Kd.R_drewN | apply Kd.R_drew)); exact HO555.out))) (Kd.R_lt (by (with_reducible repeat (first | apply Kd.R_alloc | apply Kd.R_drewN | apply Kd.R_drew)); exact HO558.out))) (Kd.R_lt (by (with_reducible repeat (first | apply Kd.R_alloc | apply Kd.R_drewN | apply Kd.R_drew)); exact HO563.out))) (Kd.R_lt (by (with_reducible repeat (first | apply Kd.R_alloc | apply Kd.R_drewN | apply Kd.R_drew)); exact HO566.out))) (below_size (by repeat (first | (with_reducible first | exact HB.out | apply below_alloc | apply pw_below_drewN | apply below_drew1 | refine below_set ?_ GE542.out | refine below_set ?_ GE543.out | refine below_set ?_ GE544.out) | exact HB.out)))); have n9_ := Aside0.mk (blk_below (g := gb542) (o := .cells #[.int .i64 a0_0, .int .i64 a0_1, .int .i64 a0_2, .int .i64 a0_3] 43 (0, 0)) (by (with_reducible repeat (first | refine blk_drewN ?_ _ | refine blk_drew ?_ | refine blk_alloc ?_ _)); exact BK542.out) hb); have n10_ := Aside0.mk (blk_below (g := gb543) (o := .cells #[.int .i64 a1_0, .int .i64 a1_1, .slice A1_2 l1_2.length c1_2, .slice A1_3 l1_3.length c1_3, .int .i64 a1_4, .int .i64 a1_5, .slice A1_6 l1_6.length c1_6, .slice A1_7 l1_7.length c1_7, .int .i64 a1_8] 46 (0, 0)) (by (with_reducible repeat (first | refine blk_drewN ?_ _ | refine blk_drew ?_ | refine blk_alloc ?_ _)); exact BK543.out) hb); have n11_ := Aside0.mk (blk_below (g := gb544) (o := .cells #[.int .i64 a2_0, .int .i64 a2_1, .slice A2_2 l2_2.length c2_2] 49 (0, 0)) (by (with_reducible repeat (first | refine blk_drewN ?_ _ | refine blk_drew ?_ | refine blk_alloc ?_ _)); exact BK544.out) hb); have n12_ := Aside0.mk (below_step (by repeat (first | (with_reducible first | exact HB.out | apply below_alloc | apply pw_below_drewN | apply below_drew1 | refine below_set ?_ GE542.out | refine below_set ?_ GE543.out | refine below_set ?_ GE544.out) | exact HB.out)) hb); clear HO555; clear HO558; clear HO563; clear HO566; clear HO572; clear BK542; clear BK543; clear BK544; clear HB; have HO555 := n0_; have HO558 := n1_; have HO563 := n2_; have HO566 := n3_; have HO572 := n4_; have HO578 := n5_; have HO581 := n6_; have HO586 := n7_; have HO589 := n8_; have BK542 := n9_; have BK543 := n10_; have BK544 := n11_; have HB := n12_; clear n0_ n1_ n2_ n3_ n4_ n5_ n6_ n7_ n8_ n9_ n10_ n11_ n12_; (try clear hb); (try clear hb2); (try clear hk); (try clear hi); (try clear ho0); (try clear ho1); (try clear ho2); (try clear ho3)) | ((with_reducible refine gate_dst (N := 9) rfl ?_); refine box_event ?hg (N := 9) ?hd (cs := #[.int .i64 0, .int .i64 0, .slice none 0 0, .slice none 0 0, .int .i64 0, .int .i64 0, .slice none 0 0, .slice none 0 0, .int .i64 0]) (t := 29) ?hr ?_; (case hd => rfl); (case hg => rfl); (case hr => first | (go_simp; done) | (go_simp; rfl)); intro gb591 hg w62 hbox hb; have n0_ := Aside0.mk (Kd.R_below (by (with_reducible repeat (first | apply Kd.R_alloc | apply Kd.R_drewN | apply Kd.R_drew)); exact HO555.out) hb); have n1_ := Aside0.mk (Kd.R_below (by (with_reducible repeat (first | apply Kd.R_alloc | apply Kd.R_drewN | apply Kd.R_drew)); exact HO558.out) hb); have n2_ := Aside0.mk (Kd.R_below (by (with_reducible repeat (first | apply Kd.R_alloc | apply Kd.R_drewN | apply Kd.R_drew)); exact HO563.out) hb); have n3_ := Aside0.mk (Kd.R_below (by (with_reducible repeat (first | apply Kd.R_alloc | apply Kd.R_drewN | apply Kd.R_drew)); exact HO566.out) hb); have n4_ := Aside0.mk (Kd.R_below (by (with_reducible repeat (first | apply Kd.R_alloc | apply Kd.R_drewN | apply Kd.R_drew)); exact HO572.out) hb); have n5_ := Aside0.mk (Kd.R_below (by (with_reducible repeat (first | apply Kd.R_alloc | apply Kd.R_drewN | apply Kd.R_drew)); exact HO578.out) hb); have n6_ := Aside0.mk (Kd.R_below (by (with_reducible repeat (first | apply Kd.R_alloc | apply Kd.R_drewN | apply Kd.R_drew)); exact HO581.out) hb); have n7_ := Aside0.mk (Kd.R_below (by (with_reducible repeat (first | apply Kd.R_alloc | apply Kd.R_drewN | apply Kd.R_drew)); exact HO586.out) hb); have n8_ := Aside0.mk (Kd.R_below (by (with_reducible repeat (first | apply Kd.R_alloc | apply Kd.R_drewN | apply Kd.R_drew)); exact HO589.out) hb); have n9_ := Aside0.mk (blk_below (g := gb542) (o := .cells #[.int .i64 a0_0, .int .i64 a0_1, .int .i64 a0_2, .int .i64 a0_3] 43 (0, 0)) (by (with_reducible repeat (first | refine blk_drewN ?_ _ | refine blk_drew ?_ | refine blk_alloc ?_ _)); exact BK542.out) hb); have n10_ := Aside0.mk (blk_below (g := gb543) (o := .cells #[.int .i64 a1_0, .int .i64 a1_1, .slice A1_2 l1_2.length c1_2, .slice A1_3 l1_3.length c1_3, .int .i64 a1_4, .int .i64 a1_5, .slice A1_6 l1_6.length c1_6, .slice A1_7 l1_7.length c1_7, .int .i64 a1_8] 46 (0, 0)) (by (with_reducible repeat (first | refine blk_drewN ?_ _ | refine blk_drew ?_ | refine blk_alloc ?_ _)); exact BK543.out) hb); have n11_ := Aside0.mk (blk_below (g := gb544) (o := .cells #[.int .i64 a2_0, .int .i64 a2_1, .slice A2_2 l2_2.length c2_2] 49 (0, 0)) (by (with_reducible repeat (first | refine blk_drewN ?_ _ | refine blk_drew ?_ | refine blk_alloc ?_ _)); exact BK544.out) hb); have n12_ := Aside0.mk (below_step (by repeat (first | (with_reducible first | exact HB.out | apply below_alloc | apply pw_below_drewN | apply below_drew1 | refine below_set ?_ GE542.out | refine below_set ?_ GE543.out | refine below_set ?_ GE544.out) | exact HB.out)) hb); have n13_ := Aside0.mk (hbox); have n14_ := Aside0.mk ((by rw [hg]; exact (below_size (by repeat (first | (with_reducible first | exact HB.out | apply below_alloc | apply pw_below_drewN | apply below_drew1 | refine below_set ?_ GE542.out | refine below_set ?_ GE543.out | refine below_set ?_ GE544.out) | exact HB.out))) : w.heap.size ≤ gb591)); have n15_ := Aside0.mk ((by rw [hg]; exact (below_size (by repeat (first | (with_reducible first | exact HB.out | apply below_alloc | apply pw_below_drewN | apply below_drew1 | refine below_set ?_ GE542.out | refine below_set ?_ GE543.out | refine below_set ?_ GE544.out) | exact HB.out))) : w.heap.size ≤ gb591)); have n16_ := Aside0.mk ((by rw [hg]; exact Nat.ne_of_lt (blk_lt (g := gb542) (o := .cells #[.int .i64 a0_0, .int .i64 a0_1, .int .i64 a0_2, .int .i64 a0_3] 43 (0, 0)) (by (with_reducible repeat (first | refine blk_drewN ?_ _ | refine blk_drew ?_ | refine blk_alloc ?_ _)); exact BK542.out)) : gb542 ≠ gb591)); have n17_ := Aside0.mk ((by rw [hg]; exact Nat.ne_of_gt (blk_lt (g := gb542) (o := .cells #[.int .i64 a0_0, .int .i64 a0_1, .int .i64 a0_2, .int .i64 a0_3] 43 (0, 0)) (by (with_reducible repeat (first | refine blk_drewN ?_ _ | refine blk_drew ?_ | refine blk_alloc ?_ _)); exact BK542.out)) : gb591 ≠ gb542)); have n18_ := Aside0.mk ((by rw [hg]; exact Nat.ne_of_lt (blk_lt (g := gb543) (o := .cells #[.int .i64 a1_0, .int .i64 a1_1, .slice A1_2 l1_2.length c1_2, .slice A1_3 l1_3.length c1_3, .int .i64 a1_4, .int .i64 a1_5, .slice A1_6 l1_6.length c1_6, .slice A1_7 l1_7.length c1_7, .int .i64 a1_8] 46 (0, 0)) (by (with_reducible repeat (first | refine blk_drewN ?_ _ | refine blk_drew ?_ | refine blk_alloc ?_ _)); exact BK543.out)) : gb543 ≠ gb591)); have n19_ := Aside0.mk ((by rw [hg]; exact Nat.ne_of_gt (blk_lt (g := gb543) (o := .cells #[.int .i64 a1_0, .int .i64 a1_1, .slice A1_2 l1_2.length c1_2, .slice A1_3 l1_3.length c1_3, .int .i64 a1_4, .int .i64 a1_5, .slice A1_6 l1_6.length c1_6, .slice A1_7 l1_7.length c1_7, .int .i64 a1_8] 46 (0, 0)) (by (with_reducible repeat (first | refine blk_drewN ?_ _ | refine blk_drew ?_ | refine blk_alloc ?_ _)); exact BK543.out)) : gb591 ≠ gb543)); have n20_ := Aside0.mk ((by rw [hg]; exact Nat.ne_of_lt (blk_lt (g := gb544) (o := .cells #[.int .i64 a2_0, .int .i64 a2_1, .slice A2_2 l2_2.length c2_2] 49 (0, 0)) (by (with_reducible repeat (first | refine blk_drewN ?_ _ | refine blk_drew ?_ | refine blk_alloc ?_ _)); exact BK544.out)) : gb544 ≠ gb591)); have n21_ := Aside0.mk ((by rw [hg]; exact Nat.ne_of_gt (blk_lt (g := gb544) (o := .cells #[.int .i64 a2_0, .int .i64 a2_1, .slice A2_2 l2_2.length c2_2] 49 (0, 0)) (by (with_reducible repeat (first | refine blk_drewN ?_ _ | refine blk_drew ?_ | refine blk_alloc ?_ _)); exact BK544.out)) : gb591 ≠ gb544)); clear HO555; clear HO558; clear HO563; clear HO566; clear HO572; clear HO578; clear HO581; clear HO586; clear HO589; clear BK542; clear BK543; clear BK544; clear HB; have HO555 := n0_; have HO558 := n1_; have HO563 := n2_; have HO566 := n3_; have HO572 := n4_; have HO578 := n5_; have HO581 := n6_; have HO586 := n7_; have HO589 := n8_; have BK542 := n9_; have BK543 := n10_; have BK544 := n11_; have HB := n12_; have BK591 := n13_; have GW591 := n14_; have GE591 := n15_; have NB542_591 := n16_; have NB591_542 := n17_; have NB543_591 := n18_; have NB591_543 := n19_; have NB544_591 := n20_; have NB591_544 := n21_; clear n0_ n1_ n2_ n3_ n4_ n5_ n6_ n7_ n8_ n9_ n10_ n11_ n12_ n13_ n14_ n15_ n16_ n17_ n18_ n19_ n20_ n21_; clear hb hbox hg; have hnb63 := NB591_542.out; have hnc63 := NB542_591.out; have hnb64 := NB591_543.out; have hnc64 := NB543_591.out; have hnb65 := NB591_544.out; have hnc65 := NB544_591.out; have hcz66_0 : w62.cell? ⟨gb591, 0, none⟩ = some (.int .i64 0) := (blk_cell BK591.out 0).trans rfl; have hcz66_1 : w62.cell? ⟨gb591, 1, none⟩ = some (.int .i64 0) := (blk_cell BK591.out 1).trans rfl; have hcz66_2 : w62.cell? ⟨gb591, 2, none⟩ = some (.slice none 0 0) := (blk_cell BK591.out 2).trans rfl; have hcz66_3 : w62.cell? ⟨gb591, 3, none⟩ = some (.slice none 0 0) := (blk_cell BK591.out 3).trans rfl; have hcz66_4 : w62.cell? ⟨gb591, 4, none⟩ = some (.int .i64 0) := (blk_cell BK591.out 4).trans rfl; have hcz66_5 : w62.cell? ⟨gb591, 5, none⟩ = some (.int .i64 0) := (blk_cell BK591.out 5).trans rfl; have hcz66_6 : w62.cell? ⟨gb591, 6, none⟩ = some (.slice none 0 0) := (blk_cell BK591.out 6).trans rfl; have hcz66_7 : w62.cell? ⟨gb591, 7, none⟩ = some (.slice none 0 0) := (blk_cell BK591.out 7).trans rfl; have hcz66_8 : w62.cell? ⟨gb591, 8, none⟩ = some (.int .i64 0) := (blk_cell BK591.out 8).trans rfl; have hfz66_0 := blk_frozen BK591.out 0; have hfz66_1 := blk_frozen BK591.out 1; have hfz66_2 := blk_frozen BK591.out 2; have hfz66_3 := blk_frozen BK591.out 3; have hfz66_4 := blk_frozen BK591.out 4; have hfz66_5 := blk_frozen BK591.out 5; have hfz66_6 := blk_frozen BK591.out 6; have hfz66_7 := blk_frozen BK591.out 7; have hfz66_8 := blk_frozen BK591.out 8; obtain ⟨Ao67, co67, eo67⟩ := Kd.R_slice HO578.out; subst eo67; obtain ⟨Ao68, co68, eo68⟩ := Kd.R_slice HO581.out; subst eo68; obtain ⟨Ao69, co69, eo69⟩ := Kd.R_slice HO586.out; subst eo69; obtain ⟨Ao70, co70, eo70⟩ := Kd.R_slice HO589.out; subst eo70; have hcz71_0 : w62.cell? ⟨gb544, 0, none⟩ = some (.int .i64 a2_0) := (blk_cell BK544.out 0).trans rfl; have hcz71_1 : w62.cell? ⟨gb544, 1, none⟩ = some (.int .i64 a2_1) := (blk_cell BK544.out 1).trans rfl; have hcz71_2 : w62.cell? ⟨gb544, 2, none⟩ = some (.slice A2_2 l2_2.length c2_2) := (blk_cell BK544.out 2).trans rfl; have hfz71_0 := blk_frozen BK544.out 0; have hfz71_1 := blk_frozen BK544.out 1; have hfz71_2 := blk_frozen BK544.out 2) | ((with_reducible refine gate_callee (f := 16) rfl ?_); refine goesL_ (some 32) rfl rfl Try.func16 (by kernel_rfl) rfl #[.agg #[.int .i64 a2_0, .int .i64 a2_1, .slice A2_2 l2_2.length c2_2]] rfl (by (try simp only [List.map_toArray, List.map_cons, List.map_nil]); first | done | rfl | (simp only [List.length_drop, List.length_take]; rfl)) ?_; (with_reducible refine (laws_toLedger.calls a2_0 a2_1 _ _ l2_2 t592 t593 t594 _ ?side1 ?side2 A30.out).mono ?_); (case side1 => exact Kd.C_below HR2_2.out (by repeat (first | (with_reducible first | exact HB.out | apply below_alloc | apply pw_below_drewN | apply below_drew1 | refine below_set ?_ GE542.out | refine below_set ?_ GE543.out | refine below_set ?_ GE544.out | refine below_set ?_ GE591.out) | exact HB.out))); (case side2 => exact HC2_2.out); rintro e w72 ⟨v595, rfl, ho0, hb⟩; refine ⟨_, rfl, ?_⟩; have n0_ := Aside0.mk (Kd.R_below (by (with_reducible repeat (first | apply Kd.R_alloc | apply Kd.R_drewN | apply Kd.R_drew)); exact (Kd.R_mono (Kd.R_far (p := ⟨gb591, 8, none⟩) (Kd.R_far (p := ⟨gb591, 7, none⟩) (Kd.R_far (p := ⟨gb591, 6, none⟩) (Kd.R_far (p := ⟨gb591, 5, none⟩) (Kd.R_far (p := ⟨gb591, 4, none⟩) (Kd.R_far (p := ⟨gb591, 3, none⟩) (Kd.R_far (p := ⟨gb591, 2, none⟩) (Kd.R_far (p := ⟨gb591, 1, none⟩) (Kd.R_far (p := ⟨gb591, 0, none⟩) (Kd.R_types HO555.out BK591.out (by decide)) (fun _ hk => hk.2) (.int .i64 t574)) (fun _ hk => hk.2) (.int .i64 t575)) (fun _ hk => hk.2) (.slice Ao67 t576.length co67)) (fun _ hk => hk.2) (.slice Ao68 t579.length co68)) (fun _ hk => hk.2) (.int .i64 t582)) (fun _ hk => hk.2) (.int .i64 t583)) (fun _ hk => hk.2) (.slice Ao69 t584.length co69)) (fun _ hk => hk.2) (.slice Ao70 t587.length co70)) (fun _ hk => hk.2) (.int .i64 t590)) (fun _ h_ => h_.1))) hb); have n1_ := Aside0.mk (Kd.R_below (by (with_reducible repeat (first | apply Kd.R_alloc | apply Kd.R_drewN | apply Kd.R_drew)); exact (Kd.R_mono (Kd.R_far (p := ⟨gb591, 8, none⟩) (Kd.R_far (p := ⟨gb591, 7, none⟩) (Kd.R_far (p := ⟨gb591, 6, none⟩) (Kd.R_far (p := ⟨gb591, 5, none⟩) (Kd.R_far (p := ⟨gb591, 4, none⟩) (Kd.R_far (p := ⟨gb591, 3, none⟩) (Kd.R_far (p := ⟨gb591, 2, none⟩) (Kd.R_far (p := ⟨gb591, 1, none⟩) (Kd.R_far (p := ⟨gb591, 0, none⟩) (Kd.R_types HO558.out BK591.out (by decide)) (fun _ hk => hk.2) (.int .i64 t574)) (fun _ hk => hk.2) (.int .i64 t575)) (fun _ hk => hk.2) (.slice Ao67 t576.length co67)) (fun _ hk => hk.2) (.slice Ao68 t579.length co68)) (fun _ hk => hk.2) (.int .i64 t582)) (fun _ hk => hk.2) (.int .i64 t583)) (fun _ hk => hk.2) (.slice Ao69 t584.length co69)) (fun _ hk => hk.2) (.slice Ao70 t587.length co70)) (fun _ hk => hk.2) (.int .i64 t590)) (fun _ h_ => h_.1))) hb); have n2_ := Aside0.mk (Kd.R_below (by (with_reducible repeat (first | apply Kd.R_alloc | apply Kd.R_drewN | apply Kd.R_drew)); exact (Kd.R_mono (Kd.R_far (p := ⟨gb591, 8, none⟩) (Kd.R_far (p := ⟨gb591, 7, none⟩) (Kd.R_far (p := ⟨gb591, 6, none⟩) (Kd.R_far (p := ⟨gb591, 5, none⟩) (Kd.R_far (p := ⟨gb591, 4, none⟩) (Kd.R_far (p := ⟨gb591, 3, none⟩) (Kd.R_far (p := ⟨gb591, 2, none⟩) (Kd.R_far (p := ⟨gb591, 1, none⟩) (Kd.R_far (p := ⟨gb591, 0, none⟩) (Kd.R_types HO563.out BK591.out (by decide)) (fun _ hk => hk.2) (.int .i64 t574)) (fun _ hk => hk.2) (.int .i64 t575)) (fun _ hk => hk.2) (.slice Ao67 t576.length co67)) (fun _ hk => hk.2) (.slice Ao68 t579.length co68)) (fun _ hk => hk.2) (.int .i64 t582)) (fun _ hk => hk.2) (.int .i64 t583)) (fun _ hk => hk.2) (.slice Ao69 t584.length co69)) (fun _ hk => hk.2) (.slice Ao70 t587.length co70)) (fun _ hk => hk.2) (.int .i64 t590)) (fun _ h_ => h_.1))) hb); have n3_ := Aside0.mk (Kd.R_below (by (with_reducible repeat (first | apply Kd.R_alloc | apply Kd.R_drewN | apply Kd.R_drew)); exact (Kd.R_mono (Kd.R_far (p := ⟨gb591, 8, none⟩) (Kd.R_far (p := ⟨gb591, 7, none⟩) (Kd.R_far (p := ⟨gb591, 6, none⟩) (Kd.R_far (p := ⟨gb591, 5, none⟩) (Kd.R_far (p := ⟨gb591, 4, none⟩) (Kd.R_far (p := ⟨gb591, 3, none⟩) (Kd.R_far (p := ⟨gb591, 2, none⟩) (Kd.R_far (p := ⟨gb591, 1, none⟩) (Kd.R_far (p := ⟨gb591, 0, none⟩) (Kd.R_types HO566.out BK591.out (by decide)) (fun _ hk => hk.2) (.int .i64 t574)) (fun _ hk => hk.2) (.int .i64 t575)) (fun _ hk => hk.2) (.slice Ao67 t576.length co67)) (fun _ hk => hk.2) (.slice Ao68 t579.length co68)) (fun _ hk => hk.2) (.int .i64 t582)) (fun _ hk => hk.2) (.int .i64 t583)) (fun _ hk => hk.2) (.slice Ao69 t584.length co69)) (fun _ hk => hk.2) (.slice Ao70 t587.length co70)) (fun _ hk => hk.2) (.int .i64 t590)) (fun _ h_ => h_.1))) hb); have n4_ := Aside0.mk (Kd.R_elder' (by (with_reducible repeat (first | apply Kd.R_alloc | apply Kd.R_drewN | apply Kd.R_drew)); exact (Kd.R_mono (Kd.R_far (p := ⟨gb591, 8, none⟩) (Kd.R_far (p := ⟨gb591, 7, none⟩) (Kd.R_far (p := ⟨gb591, 6, none⟩) (Kd.R_far (p := ⟨gb591, 5, none⟩) (Kd.R_far (p := ⟨gb591, 4, none⟩) (Kd.R_far (p := ⟨gb591, 3, none⟩) (Kd.R_far (p := ⟨gb591, 2, none⟩) (Kd.R_far (p := ⟨gb591, 1, none⟩) (Kd.R_far (p := ⟨gb591, 0, none⟩) (Kd.R_types HO572.out BK591.out (by decide)) (fun _ hk => hk.2) (.int .i64 t574)) (fun _ hk => hk.2) (.int .i64 t575)) (fun _ hk => hk.2) (.slice Ao67 t576.length co67)) (fun _ hk => hk.2) (.slice Ao68 t579.length co68)) (fun _ hk => hk.2) (.int .i64 t582)) (fun _ hk => hk.2) (.int .i64 t583)) (fun _ hk => hk.2) (.slice Ao69 t584.length co69)) (fun _ hk => hk.2) (.slice Ao70 t587.length co70)) (fun _ hk => hk.2) (.int .i64 t590)) (fun _ h_ => h_.1))) (Kd.R_base ho0) hb); have n5_ := Aside0.mk (Kd.R_below (by (with_reducible repeat (first | apply Kd.R_alloc | apply Kd.R_drewN | apply Kd.R_drew)); exact (Kd.R_mono (Kd.R_far (p := ⟨gb591, 8, none⟩) (Kd.R_far (p := ⟨gb591, 7, none⟩) (Kd.R_far (p := ⟨gb591, 6, none⟩) (Kd.R_far (p := ⟨gb591, 5, none⟩) (Kd.R_far (p := ⟨gb591, 4, none⟩) (Kd.R_far (p := ⟨gb591, 3, none⟩) (Kd.R_far (p := ⟨gb591, 2, none⟩) (Kd.R_far (p := ⟨gb591, 1, none⟩) (Kd.R_far (p := ⟨gb591, 0, none⟩) (Kd.R_types HO578.out BK591.out (by decide)) (fun _ hk => hk.2) (.int .i64 t574)) (fun _ hk => hk.2) (.int .i64 t575)) (fun _ hk => hk.2) (.slice Ao67 t576.length co67)) (fun _ hk => hk.2) (.slice Ao68 t579.length co68)) (fun _ hk => hk.2) (.int .i64 t582)) (fun _ hk => hk.2) (.int .i64 t583)) (fun _ hk => hk.2) (.slice Ao69 t584.length co69)) (fun _ hk => hk.2) (.slice Ao70 t587.length co70)) (fun _ hk => hk.2) (.int .i64 t590)) (fun _ h_ => h_.1))) hb); have n6_ := Aside0.mk (Kd.R_below (by (with_reducible repeat (first | apply Kd.R_alloc | apply Kd.R_drewN | apply Kd.R_drew)); exact (Kd.R_mono (Kd.R_far (p := ⟨gb591, 8, none⟩) (Kd.R_far (p := ⟨gb591, 7, none⟩) (Kd.R_far (p := ⟨gb591, 6, none⟩) (Kd.R_far (p := ⟨gb591, 5, none⟩) (Kd.R_far (p := ⟨gb591, 4, none⟩) (Kd.R_far (p := ⟨gb591, 3, none⟩) (Kd.R_far (p := ⟨gb591, 2, none⟩) (Kd.R_far (p := ⟨gb591, 1, none⟩) (Kd.R_far (p := ⟨gb591, 0, none⟩) (Kd.R_types HO581.out BK591.out (by decide)) (fun _ hk => hk.2) (.int .i64 t574)) (fun _ hk => hk.2) (.int .i64 t575)) (fun _ hk => hk.2) (.slice Ao67 t576.length co67)) (fun _ hk => hk.2) (.slice Ao68 t579.length co68)) (fun _ hk => hk.2) (.int .i64 t582)) (fun _ hk => hk.2) (.int .i64 t583)) (fun _ hk => hk.2) (.slice Ao69 t584.length co69)) (fun _ hk => hk.2) (.slice Ao70 t587.length co70)) (fun _ hk => hk.2) (.int .i64 t590)) (fun _ h_ => h_.1))) hb); have n7_ := Aside0.mk (Kd.R_below (by (with_reducible repeat (first | apply Kd.R_alloc | apply Kd.R_drewN | apply Kd.R_drew)); exact (Kd.R_mono (Kd.R_far (p := ⟨gb591, 8, none⟩) (Kd.R_far (p := ⟨gb591, 7, none⟩) (Kd.R_far (p := ⟨gb591, 6, none⟩) (Kd.R_far (p := ⟨gb591, 5, none⟩) (Kd.R_far (p := ⟨gb591, 4, none⟩) (Kd.R_far (p := ⟨gb591, 3, none⟩) (Kd.R_far (p := ⟨gb591, 2, none⟩) (Kd.R_far (p := ⟨gb591, 1, none⟩) (Kd.R_far (p := ⟨gb591, 0, none⟩) (Kd.R_types HO586.out BK591.out (by decide)) (fun _ hk => hk.2) (.int .i64 t574)) (fun _ hk => hk.2) (.int .i64 t575)) (fun _ hk => hk.2) (.slice Ao67 t576.length co67)) (fun _ hk => hk.2) (.slice Ao68 t579.length co68)) (fun _ hk => hk.2) (.int .i64 t582)) (fun _ hk => hk.2) (.int .i64 t583)) (fun _ hk => hk.2) (.slice Ao69 t584.length co69)) (fun _ hk => hk.2) (.slice Ao70 t587.length co70)) (fun _ hk => hk.2) (.int .i64 t590)) (fun _ h_ => h_.1))) hb); have n8_ := Aside0.mk (Kd.R_below (by (with_reducible repeat (first | apply Kd.R_alloc | apply Kd.R_drewN | apply Kd.R_drew)); exact (Kd.R_mono (Kd.R_far (p := ⟨gb591, 8, none⟩) (Kd.R_far (p := ⟨gb591, 7, none⟩) (Kd.R_far (p := ⟨gb591, 6, none⟩) (Kd.R_far (p := ⟨gb591, 5, none⟩) (Kd.R_far (p := ⟨gb591, 4, none⟩) (Kd.R_far (p := ⟨gb591, 3, none⟩) (Kd.R_far (p := ⟨gb591, 2, none⟩) (Kd.R_far (p := ⟨gb591, 1, none⟩) (Kd.R_far (p := ⟨gb591, 0, none⟩) (Kd.R_types HO589.out BK591.out (by decide)) (fun _ hk => hk.2) (.int .i64 t574)) (fun _ hk => hk.2) (.int .i64 t575)) (fun _ hk => hk.2) (.slice Ao67 t576.length co67)) (fun _ hk => hk.2) (.slice Ao68 t579.length co68)) (fun _ hk => hk.2) (.int .i64 t582)) (fun _ hk => hk.2) (.int .i64 t583)) (fun _ hk => hk.2) (.slice Ao69 t584.length co69)) (fun _ hk => hk.2) (.slice Ao70 t587.length co70)) (fun _ hk => hk.2) (.int .i64 t590)) (fun _ h_ => h_.1))) hb); have n9_ := Aside0.mk (Kd.R_lower (Kd.R_new' ho0 (Kd.R_lt (by (with_reducible repeat (first | apply Kd.R_alloc | apply Kd.R_drewN | apply Kd.R_drew)); exact (Kd.R_mono (Kd.R_far (p := ⟨gb591, 8, none⟩) (Kd.R_far (p := ⟨gb591, 7, none⟩) (Kd.R_far (p := ⟨gb591, 6, none⟩) (Kd.R_far (p := ⟨gb591, 5, none⟩) (Kd.R_far (p := ⟨gb591, 4, none⟩) (Kd.R_far (p := ⟨gb591, 3, none⟩) (Kd.R_far (p := ⟨gb591, 2, none⟩) (Kd.R_far (p := ⟨gb591, 1, none⟩) (Kd.R_far (p := ⟨gb591, 0, none⟩) (Kd.R_types HO572.out BK591.out (by decide)) (fun _ hk => hk.2) (.int .i64 t574)) (fun _ hk => hk.2) (.int .i64 t575)) (fun _ hk => hk.2) (.slice Ao67 t576.length co67)) (fun _ hk => hk.2) (.slice Ao68 t579.length co68)) (fun _ hk => hk.2) (.int .i64 t582)) (fun _ hk => hk.2) (.int .i64 t583)) (fun _ hk => hk.2) (.slice Ao69 t584.length co69)) (fun _ hk => hk.2) (.slice Ao70 t587.length co70)) (fun _ hk => hk.2) (.int .i64 t590)) (fun _ h_ => h_.1))))) (below_size (by repeat (first | (with_reducible first | exact HB.out | apply below_alloc | apply pw_below_drewN | apply below_drew1 | refine below_set ?_ GE542.out | refine below_set ?_ GE543.out | refine below_set ?_ GE544.out | refine below_set ?_ GE591.out) | exact HB.out)))); have n10_ := Aside0.mk (blk_below (g := gb542) (o := .cells #[.int .i64 a0_0, .int .i64 a0_1, .int .i64 a0_2, .int .i64 a0_3] 43 (0, 0)) (by (with_reducible repeat (first | refine blk_drewN ?_ _ | refine blk_drew ?_ | refine blk_alloc ?_ _)); refine blk_far ?_ NB542_591.out _; (with_reducible repeat (first | refine blk_drewN ?_ _ | refine blk_drew ?_ | refine blk_alloc ?_ _)); refine blk_far ?_ NB542_591.out _; (with_reducible repeat (first | refine blk_drewN ?_ _ | refine blk_drew ?_ | refine blk_alloc ?_ _)); refine blk_far ?_ NB542_591.out _; (with_reducible repeat (first | refine blk_drewN ?_ _ | refine blk_drew ?_ | refine blk_alloc ?_ _)); refine blk_far ?_ NB542_591.out _; (with_reducible repeat (first | refine blk_drewN ?_ _ | refine blk_drew ?_ | refine blk_alloc ?_ _)); refine blk_far ?_ NB542_591.out _; (with_reducible repeat (first | refine blk_drewN ?_ _ | refine blk_drew ?_ | refine blk_alloc ?_ _)); refine blk_far ?_ NB542_591.out _; (with_reducible repeat (first | refine blk_drewN ?_ _ | refine blk_drew ?_ | refine blk_alloc ?_ _)); refine blk_far ?_ NB542_591.out _; (with_reducible repeat (first | refine blk_drewN ?_ _ | refine blk_drew ?_ | refine blk_alloc ?_ _)); refine blk_far ?_ NB542_591.out _; (with_reducible repeat (first | refine blk_drewN ?_ _ | refine blk_drew ?_ | refine blk_alloc ?_ _)); refine blk_far ?_ NB542_591.out _; (with_reducible repeat (first | refine blk_drewN ?_ _ | refine blk_drew ?_ | refine blk_alloc ?_ _)); exact BK542.out) hb); have n11_ := Aside0.mk (blk_below (g := gb543) (o := .cells #[.int .i64 a1_0, .int .i64 a1_1, .slice A1_2 l1_2.length c1_2, .slice A1_3 l1_3.length c1_3, .int .i64 a1_4, .int .i64 a1_5, .slice A1_6 l1_6.length c1_6, .slice A1_7 l1_7.length c1_7, .int .i64 a1_8] 46 (0, 0)) (by (with_reducible repeat (first | refine blk_drewN ?_ _ | refine blk_drew ?_ | refine blk_alloc ?_ _)); refine blk_far ?_ NB543_591.out _; (with_reducible repeat (first | refine blk_drewN ?_ _ | refine blk_drew ?_ | refine blk_alloc ?_ _)); refine blk_far ?_ NB543_591.out _; (with_reducible repeat (first | refine blk_drewN ?_ _ | refine blk_drew ?_ | refine blk_alloc ?_ _)); refine blk_far ?_ NB543_591.out _; (with_reducible repeat (first | refine blk_drewN ?_ _ | refine blk_drew ?_ | refine blk_alloc ?_ _)); refine blk_far ?_ NB543_591.out _; (with_reducible repeat (first | refine blk_drewN ?_ _ | refine blk_drew ?_ | refine blk_alloc ?_ _)); refine blk_far ?_ NB543_591.out _; (with_reducible repeat (first | refine blk_drewN ?_ _ | refine blk_drew ?_ | refine blk_alloc ?_ _)); refine blk_far ?_ NB543_591.out _; (with_reducible repeat (first | refine blk_drewN ?_ _ | refine blk_drew ?_ | refine blk_alloc ?_ _)); refine blk_far ?_ NB543_591.out _; (with_reducible repeat (first | refine blk_drewN ?_ _ | refine blk_drew ?_ | refine blk_alloc ?_ _)); refine blk_far ?_ NB543_591.out _; (with_reducible repeat (first | refine blk_drewN ?_ _ | refine blk_drew ?_ | refine blk_alloc ?_ _)); refine blk_far ?_ NB543_591.out _; (with_reducible repeat (first | refine blk_drewN ?_ _ | refine blk_drew ?_ | refine blk_alloc ?_ _)); exact BK543.out) hb); have n12_ := Aside0.mk (blk_below (g := gb544) (o := .cells #[.int .i64 a2_0, .int .i64 a2_1, .slice A2_2 l2_2.length c2_2] 49 (0, 0)) (by (with_reducible repeat (first | refine blk_drewN ?_ _ | refine blk_drew ?_ | refine blk_alloc ?_ _)); refine blk_far ?_ NB544_591.out _; (with_reducible repeat (first | refine blk_drewN ?_ _ | refine blk_drew ?_ | refine blk_alloc ?_ _)); refine blk_far ?_ NB544_591.out _; (with_reducible repeat (first | refine blk_drewN ?_ _ | refine blk_drew ?_ | refine blk_alloc ?_ _)); refine blk_far ?_ NB544_591.out _; (with_reducible repeat (first | refine blk_drewN ?_ _ | refine blk_drew ?_ | refine blk_alloc ?_ _)); refine blk_far ?_ NB544_591.out _; (with_reducible repeat (first | refine blk_drewN ?_ _ | refine blk_drew ?_ | refine blk_alloc ?_ _)); refine blk_far ?_ NB544_591.out _; (with_reducible repeat (first | refine blk_drewN ?_ _ | refine blk_drew ?_ | refine blk_alloc ?_ _)); refine blk_far ?_ NB544_591.out _; (with_reducible repeat (first | refine blk_drewN ?_ _ | refine blk_drew ?_ | refine blk_alloc ?_ _)); refine blk_far ?_ NB544_591.out _; (with_reducible repeat (first | refine blk_drewN ?_ _ | refine blk_drew ?_ | refine blk_alloc ?_ _)); refine blk_far ?_ NB544_591.out _; (with_reducible repeat (first | refine blk_drewN ?_ _ | refine blk_drew ?_ | refine blk_alloc ?_ _)); refine blk_far ?_ NB544_591.out _; (with_reducible repeat (first | refine blk_drewN ?_ _ | refine blk_drew ?_ | refine blk_alloc ?_ _)); exact BK544.out) hb); have n13_ := Aside0.mk (blk_below (g := gb591) (o := .cells #[.int .i64 t574, .int .i64 t575, .slice Ao67 t576.length co67, .slice Ao68 t579.length co68, .int .i64 t582, .int .i64 t583, .slice Ao69 t584.length co69, .slice Ao70 t587.length co70, .int .i64 t590] 29 (0, 0)) (by (with_reducible repeat (first | refine blk_drewN ?_ _ | refine blk_drew ?_ | refine blk_alloc ?_ _)); refine blk_put (cs := #[.int .i64 t574, .int .i64 t575, .slice Ao67 t576.length co67, .slice Ao68 t579.length co68, .int .i64 t582, .int .i64 t583, .slice Ao69 t584.length co69, .slice Ao70 t587.length co70, .int .i64 0]) ?_ 8 _ rfl; (with_reducible repeat (first | refine blk_drewN ?_ _ | refine blk_drew ?_ | refine blk_alloc ?_ _)); refine blk_put (cs := #[.int .i64 t574, .int .i64 t575, .slice Ao67 t576.length co67, .slice Ao68 t579.length co68, .int .i64 t582, .int .i64 t583, .slice Ao69 t584.length co69, .slice none 0 0, .int .i64 0]) ?_ 7 _ rfl; (with_reducible repeat (first | refine blk_drewN ?_ _ | refine blk_drew ?_ | refine blk_alloc ?_ _)); refine blk_put (cs := #[.int .i64 t574, .int .i64 t575, .slice Ao67 t576.length co67, .slice Ao68 t579.length co68, .int .i64 t582, .int .i64 t583, .slice none 0 0, .slice none 0 0, .int .i64 0]) ?_ 6 _ rfl; (with_reducible repeat (first | refine blk_drewN ?_ _ | refine blk_drew ?_ | refine blk_alloc ?_ _)); refine blk_put (cs := #[.int .i64 t574, .int .i64 t575, .slice Ao67 t576.length co67, .slice Ao68 t579.length co68, .int .i64 t582, .int .i64 0, .slice none 0 0, .slice none 0 0, .int .i64 0]) ?_ 5 _ rfl; (with_reducible repeat (first | refine blk_drewN ?_ _ | refine blk_drew ?_ | refine blk_alloc ?_ _)); refine blk_put (cs := #[.int .i64 t574, .int .i64 t575, .slice Ao67 t576.length co67, .slice Ao68 t579.length co68, .int .i64 0, .int .i64 0, .slice none 0 0, .slice none 0 0, .int .i64 0]) ?_ 4 _ rfl; (with_reducible repeat (first | refine blk_drewN ?_ _ | refine blk_drew ?_ | refine blk_alloc ?_ _)); refine blk_put (cs := #[.int .i64 t574, .int .i64 t575, .slice Ao67 t576.length co67, .slice none 0 0, .int .i64 0, .int .i64 0, .slice none 0 0, .slice none 0 0, .int .i64 0]) ?_ 3 _ rfl; (with_reducible repeat (first | refine blk_drewN ?_ _ | refine blk_drew ?_ | refine blk_alloc ?_ _)); refine blk_put (cs := #[.int .i64 t574, .int .i64 t575, .slice none 0 0, .slice none 0 0, .int .i64 0, .int .i64 0, .slice none 0 0, .slice none 0 0, .int .i64 0]) ?_ 2 _ rfl; (with_reducible repeat (first | refine blk_drewN ?_ _ | refine blk_drew ?_ | refine blk_alloc ?_ _)); refine blk_put (cs := #[.int .i64 t574, .int .i64 0, .slice none 0 0, .slice none 0 0, .int .i64 0, .int .i64 0, .slice none 0 0, .slice none 0 0, .int .i64 0]) ?_ 1 _ rfl; (with_reducible repeat (first | refine blk_drewN ?_ _ | refine blk_drew ?_ | refine blk_alloc ?_ _)); refine blk_put (cs := #[.int .i64 0, .int .i64 0, .slice none 0 0, .slice none 0 0, .int .i64 0, .int .i64 0, .slice none 0 0, .slice none 0 0, .int .i64 0]) ?_ 0 _ rfl; (with_reducible repeat (first | refine blk_drewN ?_ _ | refine blk_drew ?_ | refine blk_alloc ?_ _)); exact BK591.out) hb); have n14_ := Aside0.mk (below_step (by repeat (first | (with_reducible first | exact HB.out | apply below_alloc | apply pw_below_drewN | apply below_drew1 | refine below_set ?_ GE542.out | refine below_set ?_ GE543.out | refine below_set ?_ GE544.out | refine below_set ?_ GE591.out) | exact HB.out)) hb); clear HO555; clear HO558; clear HO563; clear HO566; clear HO572; clear HO578; clear HO581; clear HO586; clear HO589; clear BK542; clear BK543; clear BK544; clear BK591; clear HB; have HO555 := n0_; have HO558 := n1_; have HO563 := n2_; have HO566 := n3_; have HO572 := n4_; have HO578 := n5_; have HO581 := n6_; have HO586 := n7_; have HO589 := n8_; have HO596 := n9_; have BK542 := n10_; have BK543 := n11_; have BK544 := n12_; have BK591 := n13_; have HB := n14_; clear n0_ n1_ n2_ n3_ n4_ n5_ n6_ n7_ n8_ n9_ n10_ n11_ n12_ n13_ n14_; (try clear hb); (try clear hb2); (try clear hk); (try clear hi); (try clear ho0)) | ((with_reducible refine gate_dst (N := 10) rfl ?_); refine box_event ?hg (N := 10) ?hd (cs := #[.int .i64 0, .int .i64 0, .slice none 0 0]) (t := 33) ?hr ?_; (case hd => rfl); (case hg => rfl); (case hr => first | (go_simp; done) | (go_simp; rfl)); intro gb597 hg w73 hbox hb; have n0_ := Aside0.mk (Kd.R_below (by (with_reducible repeat (first | apply Kd.R_alloc | apply Kd.R_drewN | apply Kd.R_drew)); exact HO555.out) hb); have n1_ := Aside0.mk (Kd.R_below (by (with_reducible repeat (first | apply Kd.R_alloc | apply Kd.R_drewN | apply Kd.R_drew)); exact HO558.out) hb); have n2_ := Aside0.mk (Kd.R_below (by (with_reducible repeat (first | apply Kd.R_alloc | apply Kd.R_drewN | apply Kd.R_drew)); exact HO563.out) hb); have n3_ := Aside0.mk (Kd.R_below (by (with_reducible repeat (first | apply Kd.R_alloc | apply Kd.R_drewN | apply Kd.R_drew)); exact HO566.out) hb); have n4_ := Aside0.mk (Kd.R_below (by (with_reducible repeat (first | apply Kd.R_alloc | apply Kd.R_drewN | apply Kd.R_drew)); exact HO572.out) hb); have n5_ := Aside0.mk (Kd.R_below (by (with_reducible repeat (first | apply Kd.R_alloc | apply Kd.R_drewN | apply Kd.R_drew)); exact HO578.out) hb); have n6_ := Aside0.mk (Kd.R_below (by (with_reducible repeat (first | apply Kd.R_alloc | apply Kd.R_drewN | apply Kd.R_drew)); exact HO581.out) hb); have n7_ := Aside0.mk (Kd.R_below (by (with_reducible repeat (first | apply Kd.R_alloc | apply Kd.R_drewN | apply Kd.R_drew)); exact HO586.out) hb); have n8_ := Aside0.mk (Kd.R_below (by (with_reducible repeat (first | apply Kd.R_alloc | apply Kd.R_drewN | apply Kd.R_drew)); exact HO589.out) hb); have n9_ := Aside0.mk (Kd.R_below (by (with_reducible repeat (first | apply Kd.R_alloc | apply Kd.R_drewN | apply Kd.R_drew)); exact HO596.out) hb); have n10_ := Aside0.mk (blk_below (g := gb542) (o := .cells #[.int .i64 a0_0, .int .i64 a0_1, .int .i64 a0_2, .int .i64 a0_3] 43 (0, 0)) (by (with_reducible repeat (first | refine blk_drewN ?_ _ | refine blk_drew ?_ | refine blk_alloc ?_ _)); exact BK542.out) hb); have n11_ := Aside0.mk (blk_below (g := gb543) (o := .cells #[.int .i64 a1_0, .int .i64 a1_1, .slice A1_2 l1_2.length c1_2, .slice A1_3 l1_3.length c1_3, .int .i64 a1_4, .int .i64 a1_5, .slice A1_6 l1_6.length c1_6, .slice A1_7 l1_7.length c1_7, .int .i64 a1_8] 46 (0, 0)) (by (with_reducible repeat (first | refine blk_drewN ?_ _ | refine blk_drew ?_ | refine blk_alloc ?_ _)); exact BK543.out) hb); have n12_ := Aside0.mk (blk_below (g := gb544) (o := .cells #[.int .i64 a2_0, .int .i64 a2_1, .slice A2_2 l2_2.length c2_2] 49 (0, 0)) (by (with_reducible repeat (first | refine blk_drewN ?_ _ | refine blk_drew ?_ | refine blk_alloc ?_ _)); exact BK544.out) hb); have n13_ := Aside0.mk (blk_below (g := gb591) (o := .cells #[.int .i64 t574, .int .i64 t575, .slice Ao67 t576.length co67, .slice Ao68 t579.length co68, .int .i64 t582, .int .i64 t583, .slice Ao69 t584.length co69, .slice Ao70 t587.length co70, .int .i64 t590] 29 (0, 0)) (by (with_reducible repeat (first | refine blk_drewN ?_ _ | refine blk_drew ?_ | refine blk_alloc ?_ _)); exact BK591.out) hb); have n14_ := Aside0.mk (below_step (by repeat (first | (with_reducible first | exact HB.out | apply below_alloc | apply pw_below_drewN | apply below_drew1 | refine below_set ?_ GE542.out | refine below_set ?_ GE543.out | refine below_set ?_ GE544.out | refine below_set ?_ GE591.out) | exact HB.out)) hb); have n15_ := Aside0.mk (hbox); have n16_ := Aside0.mk ((by rw [hg]; exact (below_size (by repeat (first | (with_reducible first | exact HB.out | apply below_alloc | apply pw_below_drewN | apply below_drew1 | refine below_set ?_ GE542.out | refine below_set ?_ GE543.out | refine below_set ?_ GE544.out | refine below_set ?_ GE591.out) | exact HB.out))) : w.heap.size ≤ gb597)); have n17_ := Aside0.mk ((by rw [hg]; exact (below_size (by repeat (first | (with_reducible first | exact HB.out | apply below_alloc | apply pw_below_drewN | apply below_drew1 | refine below_set ?_ GE542.out | refine below_set ?_ GE543.out | refine below_set ?_ GE544.out | refine below_set ?_ GE591.out) | exact HB.out))) : w.heap.size ≤ gb597)); have n18_ := Aside0.mk ((by rw [hg]; exact Nat.ne_of_lt (blk_lt (g := gb542) (o := .cells #[.int .i64 a0_0, .int .i64 a0_1, .int .i64 a0_2, .int .i64 a0_3] 43 (0, 0)) (by (with_reducible repeat (first | refine blk_drewN ?_ _ | refine blk_drew ?_ | refine blk_alloc ?_ _)); exact BK542.out)) : gb542 ≠ gb597)); have n19_ := Aside0.mk ((by rw [hg]; exact Nat.ne_of_gt (blk_lt (g := gb542) (o := .cells #[.int .i64 a0_0, .int .i64 a0_1, .int .i64 a0_2, .int .i64 a0_3] 43 (0, 0)) (by (with_reducible repeat (first | refine blk_drewN ?_ _ | refine blk_drew ?_ | refine blk_alloc ?_ _)); exact BK542.out)) : gb597 ≠ gb542)); have n20_ := Aside0.mk ((by rw [hg]; exact Nat.ne_of_lt (blk_lt (g := gb543) (o := .cells #[.int .i64 a1_0, .int .i64 a1_1, .slice A1_2 l1_2.length c1_2, .slice A1_3 l1_3.length c1_3, .int .i64 a1_4, .int .i64 a1_5, .slice A1_6 l1_6.length c1_6, .slice A1_7 l1_7.length c1_7, .int .i64 a1_8] 46 (0, 0)) (by (with_reducible repeat (first | refine blk_drewN ?_ _ | refine blk_drew ?_ | refine blk_alloc ?_ _)); exact BK543.out)) : gb543 ≠ gb597)); have n21_ := Aside0.mk ((by rw [hg]; exact Nat.ne_of_gt (blk_lt (g := gb543) (o := .cells #[.int .i64 a1_0, .int .i64 a1_1, .slice A1_2 l1_2.length c1_2, .slice A1_3 l1_3.length c1_3, .int .i64 a1_4, .int .i64 a1_5, .slice A1_6 l1_6.length c1_6, .slice A1_7 l1_7.length c1_7, .int .i64 a1_8] 46 (0, 0)) (by (with_reducible repeat (first | refine blk_drewN ?_ _ | refine blk_drew ?_ | refine blk_alloc ?_ _)); exact BK543.out)) : gb597 ≠ gb543)); have n22_ := Aside0.mk ((by rw [hg]; exact Nat.ne_of_lt (blk_lt (g := gb544) (o := .cells #[.int .i64 a2_0, .int .i64 a2_1, .slice A2_2 l2_2.length c2_2] 49 (0, 0)) (by (with_reducible repeat (first | refine blk_drewN ?_ _ | refine blk_drew ?_ | refine blk_alloc ?_ _)); exact BK544.out)) : gb544 ≠ gb597)); have n23_ := Aside0.mk ((by rw [hg]; exact Nat.ne_of_gt (blk_lt (g := gb544) (o := .cells #[.int .i64 a2_0, .int .i64 a2_1, .slice A2_2 l2_2.length c2_2] 49 (0, 0)) (by (with_reducible repeat (first | refine blk_drewN ?_ _ | refine blk_drew ?_ | refine blk_alloc ?_ _)); exact BK544.out)) : gb597 ≠ gb544)); have n24_ := Aside0.mk ((by rw [hg]; exact Nat.ne_of_lt (blk_lt (g := gb591) (o := .cells #[.int .i64 t574, .int .i64 t575, .slice Ao67 t576.length co67, .slice Ao68 t579.length co68, .int .i64 t582, .int .i64 t583, .slice Ao69 t584.length co69, .slice Ao70 t587.length co70, .int .i64 t590] 29 (0, 0)) (by (with_reducible repeat (first | refine blk_drewN ?_ _ | refine blk_drew ?_ | refine blk_alloc ?_ _)); exact BK591.out)) : gb591 ≠ gb597)); have n25_ := Aside0.mk ((by rw [hg]; exact Nat.ne_of_gt (blk_lt (g := gb591) (o := .cells #[.int .i64 t574, .int .i64 t575, .slice Ao67 t576.length co67, .slice Ao68 t579.length co68, .int .i64 t582, .int .i64 t583, .slice Ao69 t584.length co69, .slice Ao70 t587.length co70, .int .i64 t590] 29 (0, 0)) (by (with_reducible repeat (first | refine blk_drewN ?_ _ | refine blk_drew ?_ | refine blk_alloc ?_ _)); exact BK591.out)) : gb597 ≠ gb591)); clear HO555; clear HO558; clear HO563; clear HO566; clear HO572; clear HO578; clear HO581; clear HO586; clear HO589; clear HO596; clear BK542; clear BK543; clear BK544; clear BK591; clear HB; have HO555 := n0_; have HO558 := n1_; have HO563 := n2_; have HO566 := n3_; have HO572 := n4_; have HO578 := n5_; have HO581 := n6_; have HO586 := n7_; have HO589 := n8_; have HO596 := n9_; have BK542 := n10_; have BK543 := n11_; have BK544 := n12_; have BK591 := n13_; have HB := n14_; have BK597 := n15_; have GW597 := n16_; have GE597 := n17_; have NB542_597 := n18_; have NB597_542 := n19_; have NB543_597 := n20_; have NB597_543 := n21_; have NB544_597 := n22_; have NB597_544 := n23_; have NB591_597 := n24_; have NB597_591 := n25_; clear n0_ n1_ n2_ n3_ n4_ n5_ n6_ n7_ n8_ n9_ n10_ n11_ n12_ n13_ n14_ n15_ n16_ n17_ n18_ n19_ n20_ n21_ n22_ n23_ n24_ n25_; clear hb hbox hg; have hnb74 := NB597_542.out; have hnc74 := NB542_597.out; have hnb75 := NB597_543.out; have hnc75 := NB543_597.out; have hnb76 := NB597_544.out; have hnc76 := NB544_597.out; have hnb77 := NB597_591.out; have hnc77 := NB591_597.out; have hcz78_0 : w73.cell? ⟨gb597, 0, none⟩ = some (.int .i64 0) := (blk_cell BK597.out 0).trans rfl; have hcz78_1 : w73.cell? ⟨gb597, 1, none⟩ = some (.int .i64 0) := (blk_cell BK597.out 1).trans rfl; have hcz78_2 : w73.cell? ⟨gb597, 2, none⟩ = some (.slice none 0 0) := (blk_cell BK597.out 2).trans rfl; have hfz78_0 := blk_frozen BK597.out 0; have hfz78_1 := blk_frozen BK597.out 1; have hfz78_2 := blk_frozen BK597.out 2; obtain ⟨Ao79, co79, eo79⟩ := Kd.R_slice HO596.out; subst eo79))
            have n0_ : Aside0 (Kd.R (Kd.int .i64) 3 (((w73.setCell ⟨gb597, 0, none⟩ (.int .i64 t592)).setCell ⟨gb597, 1, none⟩ (.int .i64 t593)).setCell ⟨gb597, 2, none⟩ (.slice Ao79 t594.length co79)) w.heap.size (fun k_ => some k_ ≠ (.slice Ao55 t556.length co55 : Value).ownBlock ∧ some k_ ≠ (.slice Ao56 t561.length co56 : Value).ownBlock ∧ some k_ ≠ (.slice Ao57 t564.length co57 : Value).ownBlock ∧ some k_ ≠ (.slice Ao67 t576.length co67 : Value).ownBlock ∧ some k_ ≠ (.slice Ao68 t579.length co68 : Value).ownBlock ∧ some k_ ≠ (.slice Ao69 t584.length co69 : Value).ownBlock ∧ some k_ ≠ (.slice Ao70 t587.length co70 : Value).ownBlock) (.slice Ao54 t553.length co54) t553) := ⟨by (with_reducible repeat (first | apply Kd.R_alloc | apply Kd.R_drewN | apply Kd.R_drew)); exact Kd.R_mono (Kd.R_far (p := ⟨gb597, 2, none⟩) (Kd.R_far (p := ⟨gb597, 1, none⟩) (Kd.R_far (p := ⟨gb597, 0, none⟩) (Kd.R_types HO555.out BK597.out (by decide)) (fun _ hk => hk.2) (.int .i64 t592)) (fun _ hk => hk.2) (.int .i64 t593)) (fun _ hk => hk.2) (.slice Ao79 t594.length co79)) (fun _ hk => ⟨hk.1.1.1.1.1.1, ⟨hk.1.1.1.1.1.2.1, ⟨hk.1.1.1.1.1.2.2, ⟨hk.1.1.1.1.2, ⟨hk.1.1.1.2, ⟨hk.1.1.2, hk.1.2⟩⟩⟩⟩⟩⟩)⟩
            have n1_ : Aside0 (Kd.R (Kd.int .i64) 3 (((w73.setCell ⟨gb597, 0, none⟩ (.int .i64 t592)).setCell ⟨gb597, 1, none⟩ (.int .i64 t593)).setCell ⟨gb597, 2, none⟩ (.slice Ao79 t594.length co79)) w.heap.size (fun k_ => some k_ ≠ (.slice Ao54 t553.length co54 : Value).ownBlock ∧ some k_ ≠ (.slice Ao56 t561.length co56 : Value).ownBlock ∧ some k_ ≠ (.slice Ao57 t564.length co57 : Value).ownBlock ∧ some k_ ≠ (.slice Ao67 t576.length co67 : Value).ownBlock ∧ some k_ ≠ (.slice Ao68 t579.length co68 : Value).ownBlock ∧ some k_ ≠ (.slice Ao69 t584.length co69 : Value).ownBlock ∧ some k_ ≠ (.slice Ao70 t587.length co70 : Value).ownBlock) (.slice Ao55 t556.length co55) t556) := ⟨by (with_reducible repeat (first | apply Kd.R_alloc | apply Kd.R_drewN | apply Kd.R_drew)); exact Kd.R_mono (Kd.R_far (p := ⟨gb597, 2, none⟩) (Kd.R_far (p := ⟨gb597, 1, none⟩) (Kd.R_far (p := ⟨gb597, 0, none⟩) (Kd.R_types HO558.out BK597.out (by decide)) (fun _ hk => hk.2) (.int .i64 t592)) (fun _ hk => hk.2) (.int .i64 t593)) (fun _ hk => hk.2) (.slice Ao79 t594.length co79)) (fun _ hk => ⟨hk.1.1.1.1.1.1, ⟨hk.1.1.1.1.1.2.1, ⟨hk.1.1.1.1.1.2.2, ⟨hk.1.1.1.1.2, ⟨hk.1.1.1.2, ⟨hk.1.1.2, hk.1.2⟩⟩⟩⟩⟩⟩)⟩
            have n2_ : Aside0 (Kd.R (Kd.int .i64) 3 (((w73.setCell ⟨gb597, 0, none⟩ (.int .i64 t592)).setCell ⟨gb597, 1, none⟩ (.int .i64 t593)).setCell ⟨gb597, 2, none⟩ (.slice Ao79 t594.length co79)) w.heap.size (fun k_ => some k_ ≠ (.slice Ao54 t553.length co54 : Value).ownBlock ∧ some k_ ≠ (.slice Ao55 t556.length co55 : Value).ownBlock ∧ some k_ ≠ (.slice Ao57 t564.length co57 : Value).ownBlock ∧ some k_ ≠ (.slice Ao67 t576.length co67 : Value).ownBlock ∧ some k_ ≠ (.slice Ao68 t579.length co68 : Value).ownBlock ∧ some k_ ≠ (.slice Ao69 t584.length co69 : Value).ownBlock ∧ some k_ ≠ (.slice Ao70 t587.length co70 : Value).ownBlock) (.slice Ao56 t561.length co56) t561) := ⟨by (with_reducible repeat (first | apply Kd.R_alloc | apply Kd.R_drewN | apply Kd.R_drew)); exact Kd.R_mono (Kd.R_far (p := ⟨gb597, 2, none⟩) (Kd.R_far (p := ⟨gb597, 1, none⟩) (Kd.R_far (p := ⟨gb597, 0, none⟩) (Kd.R_types HO563.out BK597.out (by decide)) (fun _ hk => hk.2) (.int .i64 t592)) (fun _ hk => hk.2) (.int .i64 t593)) (fun _ hk => hk.2) (.slice Ao79 t594.length co79)) (fun _ hk => ⟨hk.1.1.1.1.1.1, ⟨hk.1.1.1.1.1.2.1, ⟨hk.1.1.1.1.1.2.2, ⟨hk.1.1.1.1.2, ⟨hk.1.1.1.2, ⟨hk.1.1.2, hk.1.2⟩⟩⟩⟩⟩⟩)⟩
            have n3_ : Aside0 (Kd.R (Kd.int .i64) 3 (((w73.setCell ⟨gb597, 0, none⟩ (.int .i64 t592)).setCell ⟨gb597, 1, none⟩ (.int .i64 t593)).setCell ⟨gb597, 2, none⟩ (.slice Ao79 t594.length co79)) w.heap.size (fun k_ => some k_ ≠ (.slice Ao54 t553.length co54 : Value).ownBlock ∧ some k_ ≠ (.slice Ao55 t556.length co55 : Value).ownBlock ∧ some k_ ≠ (.slice Ao56 t561.length co56 : Value).ownBlock ∧ some k_ ≠ (.slice Ao67 t576.length co67 : Value).ownBlock ∧ some k_ ≠ (.slice Ao68 t579.length co68 : Value).ownBlock ∧ some k_ ≠ (.slice Ao69 t584.length co69 : Value).ownBlock ∧ some k_ ≠ (.slice Ao70 t587.length co70 : Value).ownBlock) (.slice Ao57 t564.length co57) t564) := ⟨by (with_reducible repeat (first | apply Kd.R_alloc | apply Kd.R_drewN | apply Kd.R_drew)); exact Kd.R_mono (Kd.R_far (p := ⟨gb597, 2, none⟩) (Kd.R_far (p := ⟨gb597, 1, none⟩) (Kd.R_far (p := ⟨gb597, 0, none⟩) (Kd.R_types HO566.out BK597.out (by decide)) (fun _ hk => hk.2) (.int .i64 t592)) (fun _ hk => hk.2) (.int .i64 t593)) (fun _ hk => hk.2) (.slice Ao79 t594.length co79)) (fun _ hk => ⟨hk.1.1.1.1.1.1, ⟨hk.1.1.1.1.1.2.1, ⟨hk.1.1.1.1.1.2.2, ⟨hk.1.1.1.1.2, ⟨hk.1.1.1.2, ⟨hk.1.1.2, hk.1.2⟩⟩⟩⟩⟩⟩)⟩
            have n4_ : Aside0 (Kd.R k30 30 (((w73.setCell ⟨gb597, 0, none⟩ (.int .i64 t592)).setCell ⟨gb597, 1, none⟩ (.int .i64 t593)).setCell ⟨gb597, 2, none⟩ (.slice Ao79 t594.length co79)) w.heap.size (fun k_ => some k_ ≠ (.slice Ao79 t594.length co79 : Value).ownBlock) (.slice Ao58 t570.length co58) t570) := ⟨by (with_reducible repeat (first | apply Kd.R_alloc | apply Kd.R_drewN | apply Kd.R_drew)); exact Kd.R_mono (Kd.R_far (p := ⟨gb597, 2, none⟩) (Kd.R_far (p := ⟨gb597, 1, none⟩) (Kd.R_far (p := ⟨gb597, 0, none⟩) (Kd.R_types HO572.out BK597.out (by decide)) (fun _ hk => hk.2) (.int .i64 t592)) (fun _ hk => hk.2) (.int .i64 t593)) (fun _ hk => hk.2) (.slice Ao79 t594.length co79)) (fun _ hk => hk.1.2)⟩
            have n5_ : Aside0 (Kd.R (Kd.int .i64) 3 (((w73.setCell ⟨gb597, 0, none⟩ (.int .i64 t592)).setCell ⟨gb597, 1, none⟩ (.int .i64 t593)).setCell ⟨gb597, 2, none⟩ (.slice Ao79 t594.length co79)) w.heap.size (fun k_ => some k_ ≠ (.slice Ao54 t553.length co54 : Value).ownBlock ∧ some k_ ≠ (.slice Ao55 t556.length co55 : Value).ownBlock ∧ some k_ ≠ (.slice Ao56 t561.length co56 : Value).ownBlock ∧ some k_ ≠ (.slice Ao57 t564.length co57 : Value).ownBlock ∧ some k_ ≠ (.slice Ao68 t579.length co68 : Value).ownBlock ∧ some k_ ≠ (.slice Ao69 t584.length co69 : Value).ownBlock ∧ some k_ ≠ (.slice Ao70 t587.length co70 : Value).ownBlock) (.slice Ao67 t576.length co67) t576) := ⟨by (with_reducible repeat (first | apply Kd.R_alloc | apply Kd.R_drewN | apply Kd.R_drew)); exact Kd.R_mono (Kd.R_far (p := ⟨gb597, 2, none⟩) (Kd.R_far (p := ⟨gb597, 1, none⟩) (Kd.R_far (p := ⟨gb597, 0, none⟩) (Kd.R_types HO578.out BK597.out (by decide)) (fun _ hk => hk.2) (.int .i64 t592)) (fun _ hk => hk.2) (.int .i64 t593)) (fun _ hk => hk.2) (.slice Ao79 t594.length co79)) (fun _ hk => ⟨hk.1.1.1.1.2, ⟨hk.1.1.1.2, ⟨hk.1.1.2, ⟨hk.1.2, ⟨hk.1.1.1.1.1.1, ⟨hk.1.1.1.1.1.2.1, hk.1.1.1.1.1.2.2⟩⟩⟩⟩⟩⟩)⟩
            have n6_ : Aside0 (Kd.R (Kd.int .i64) 3 (((w73.setCell ⟨gb597, 0, none⟩ (.int .i64 t592)).setCell ⟨gb597, 1, none⟩ (.int .i64 t593)).setCell ⟨gb597, 2, none⟩ (.slice Ao79 t594.length co79)) w.heap.size (fun k_ => some k_ ≠ (.slice Ao54 t553.length co54 : Value).ownBlock ∧ some k_ ≠ (.slice Ao55 t556.length co55 : Value).ownBlock ∧ some k_ ≠ (.slice Ao56 t561.length co56 : Value).ownBlock ∧ some k_ ≠ (.slice Ao57 t564.length co57 : Value).ownBlock ∧ some k_ ≠ (.slice Ao67 t576.length co67 : Value).ownBlock ∧ some k_ ≠ (.slice Ao69 t584.length co69 : Value).ownBlock ∧ some k_ ≠ (.slice Ao70 t587.length co70 : Value).ownBlock) (.slice Ao68 t579.length co68) t579) := ⟨by (with_reducible repeat (first | apply Kd.R_alloc | apply Kd.R_drewN | apply Kd.R_drew)); exact Kd.R_mono (Kd.R_far (p := ⟨gb597, 2, none⟩) (Kd.R_far (p := ⟨gb597, 1, none⟩) (Kd.R_far (p := ⟨gb597, 0, none⟩) (Kd.R_types HO581.out BK597.out (by decide)) (fun _ hk => hk.2) (.int .i64 t592)) (fun _ hk => hk.2) (.int .i64 t593)) (fun _ hk => hk.2) (.slice Ao79 t594.length co79)) (fun _ hk => ⟨hk.1.1.1.1.2, ⟨hk.1.1.1.2, ⟨hk.1.1.2, ⟨hk.1.2, ⟨hk.1.1.1.1.1.1, ⟨hk.1.1.1.1.1.2.1, hk.1.1.1.1.1.2.2⟩⟩⟩⟩⟩⟩)⟩
            have n7_ : Aside0 (Kd.R (Kd.int .i64) 3 (((w73.setCell ⟨gb597, 0, none⟩ (.int .i64 t592)).setCell ⟨gb597, 1, none⟩ (.int .i64 t593)).setCell ⟨gb597, 2, none⟩ (.slice Ao79 t594.length co79)) w.heap.size (fun k_ => some k_ ≠ (.slice Ao54 t553.length co54 : Value).ownBlock ∧ some k_ ≠ (.slice Ao55 t556.length co55 : Value).ownBlock ∧ some k_ ≠ (.slice Ao56 t561.length co56 : Value).ownBlock ∧ some k_ ≠ (.slice Ao57 t564.length co57 : Value).ownBlock ∧ some k_ ≠ (.slice Ao67 t576.length co67 : Value).ownBlock ∧ some k_ ≠ (.slice Ao68 t579.length co68 : Value).ownBlock ∧ some k_ ≠ (.slice Ao70 t587.length co70 : Value).ownBlock) (.slice Ao69 t584.length co69) t584) := ⟨by (with_reducible repeat (first | apply Kd.R_alloc | apply Kd.R_drewN | apply Kd.R_drew)); exact Kd.R_mono (Kd.R_far (p := ⟨gb597, 2, none⟩) (Kd.R_far (p := ⟨gb597, 1, none⟩) (Kd.R_far (p := ⟨gb597, 0, none⟩) (Kd.R_types HO586.out BK597.out (by decide)) (fun _ hk => hk.2) (.int .i64 t592)) (fun _ hk => hk.2) (.int .i64 t593)) (fun _ hk => hk.2) (.slice Ao79 t594.length co79)) (fun _ hk => ⟨hk.1.1.1.1.2, ⟨hk.1.1.1.2, ⟨hk.1.1.2, ⟨hk.1.2, ⟨hk.1.1.1.1.1.1, ⟨hk.1.1.1.1.1.2.1, hk.1.1.1.1.1.2.2⟩⟩⟩⟩⟩⟩)⟩
            have n8_ : Aside0 (Kd.R (Kd.int .i64) 3 (((w73.setCell ⟨gb597, 0, none⟩ (.int .i64 t592)).setCell ⟨gb597, 1, none⟩ (.int .i64 t593)).setCell ⟨gb597, 2, none⟩ (.slice Ao79 t594.length co79)) w.heap.size (fun k_ => some k_ ≠ (.slice Ao54 t553.length co54 : Value).ownBlock ∧ some k_ ≠ (.slice Ao55 t556.length co55 : Value).ownBlock ∧ some k_ ≠ (.slice Ao56 t561.length co56 : Value).ownBlock ∧ some k_ ≠ (.slice Ao57 t564.length co57 : Value).ownBlock ∧ some k_ ≠ (.slice Ao67 t576.length co67 : Value).ownBlock ∧ some k_ ≠ (.slice Ao68 t579.length co68 : Value).ownBlock ∧ some k_ ≠ (.slice Ao69 t584.length co69 : Value).ownBlock) (.slice Ao70 t587.length co70) t587) := ⟨by (with_reducible repeat (first | apply Kd.R_alloc | apply Kd.R_drewN | apply Kd.R_drew)); exact Kd.R_mono (Kd.R_far (p := ⟨gb597, 2, none⟩) (Kd.R_far (p := ⟨gb597, 1, none⟩) (Kd.R_far (p := ⟨gb597, 0, none⟩) (Kd.R_types HO589.out BK597.out (by decide)) (fun _ hk => hk.2) (.int .i64 t592)) (fun _ hk => hk.2) (.int .i64 t593)) (fun _ hk => hk.2) (.slice Ao79 t594.length co79)) (fun _ hk => ⟨hk.1.1.1.1.2, ⟨hk.1.1.1.2, ⟨hk.1.1.2, ⟨hk.1.2, ⟨hk.1.1.1.1.1.1, ⟨hk.1.1.1.1.1.2.1, hk.1.1.1.1.1.2.2⟩⟩⟩⟩⟩⟩)⟩
            have n9_ : Aside0 (Kd.R k30 30 (((w73.setCell ⟨gb597, 0, none⟩ (.int .i64 t592)).setCell ⟨gb597, 1, none⟩ (.int .i64 t593)).setCell ⟨gb597, 2, none⟩ (.slice Ao79 t594.length co79)) w.heap.size (fun k_ => some k_ ≠ (.slice Ao58 t570.length co58 : Value).ownBlock) (.slice Ao79 t594.length co79) t594) := ⟨by (with_reducible repeat (first | apply Kd.R_alloc | apply Kd.R_drewN | apply Kd.R_drew)); exact Kd.R_mono (Kd.R_far (p := ⟨gb597, 2, none⟩) (Kd.R_far (p := ⟨gb597, 1, none⟩) (Kd.R_far (p := ⟨gb597, 0, none⟩) (Kd.R_types HO596.out BK597.out (by decide)) (fun _ hk => hk.2) (.int .i64 t592)) (fun _ hk => hk.2) (.int .i64 t593)) (fun _ hk => hk.2) (.slice Ao79 t594.length co79)) (fun _ hk => hk.1.2)⟩
            have n10_ : Aside0 ((((w73.setCell ⟨gb597, 0, none⟩ (.int .i64 t592)).setCell ⟨gb597, 1, none⟩ (.int .i64 t593)).setCell ⟨gb597, 2, none⟩ (.slice Ao79 t594.length co79)).heap[gb542]? = some (.cells #[.int .i64 a0_0, .int .i64 a0_1, .int .i64 a0_2, .int .i64 a0_3] 43 (0, 0))) := ⟨by (with_reducible repeat (first | refine blk_drewN ?_ _ | refine blk_drew ?_ | refine blk_alloc ?_ _)); refine blk_far ?_ NB542_597.out _; (with_reducible repeat (first | refine blk_drewN ?_ _ | refine blk_drew ?_ | refine blk_alloc ?_ _)); refine blk_far ?_ NB542_597.out _; (with_reducible repeat (first | refine blk_drewN ?_ _ | refine blk_drew ?_ | refine blk_alloc ?_ _)); refine blk_far ?_ NB542_597.out _; (with_reducible repeat (first | refine blk_drewN ?_ _ | refine blk_drew ?_ | refine blk_alloc ?_ _)); exact BK542.out⟩
            have n11_ : Aside0 ((((w73.setCell ⟨gb597, 0, none⟩ (.int .i64 t592)).setCell ⟨gb597, 1, none⟩ (.int .i64 t593)).setCell ⟨gb597, 2, none⟩ (.slice Ao79 t594.length co79)).heap[gb543]? = some (.cells #[.int .i64 a1_0, .int .i64 a1_1, .slice A1_2 l1_2.length c1_2, .slice A1_3 l1_3.length c1_3, .int .i64 a1_4, .int .i64 a1_5, .slice A1_6 l1_6.length c1_6, .slice A1_7 l1_7.length c1_7, .int .i64 a1_8] 46 (0, 0))) := ⟨by (with_reducible repeat (first | refine blk_drewN ?_ _ | refine blk_drew ?_ | refine blk_alloc ?_ _)); refine blk_far ?_ NB543_597.out _; (with_reducible repeat (first | refine blk_drewN ?_ _ | refine blk_drew ?_ | refine blk_alloc ?_ _)); refine blk_far ?_ NB543_597.out _; (with_reducible repeat (first | refine blk_drewN ?_ _ | refine blk_drew ?_ | refine blk_alloc ?_ _)); refine blk_far ?_ NB543_597.out _; (with_reducible repeat (first | refine blk_drewN ?_ _ | refine blk_drew ?_ | refine blk_alloc ?_ _)); exact BK543.out⟩
            have n12_ : Aside0 ((((w73.setCell ⟨gb597, 0, none⟩ (.int .i64 t592)).setCell ⟨gb597, 1, none⟩ (.int .i64 t593)).setCell ⟨gb597, 2, none⟩ (.slice Ao79 t594.length co79)).heap[gb544]? = some (.cells #[.int .i64 a2_0, .int .i64 a2_1, .slice A2_2 l2_2.length c2_2] 49 (0, 0))) := ⟨by (with_reducible repeat (first | refine blk_drewN ?_ _ | refine blk_drew ?_ | refine blk_alloc ?_ _)); refine blk_far ?_ NB544_597.out _; (with_reducible repeat (first | refine blk_drewN ?_ _ | refine blk_drew ?_ | refine blk_alloc ?_ _)); refine blk_far ?_ NB544_597.out _; (with_reducible repeat (first | refine blk_drewN ?_ _ | refine blk_drew ?_ | refine blk_alloc ?_ _)); refine blk_far ?_ NB544_597.out _; (with_reducible repeat (first | refine blk_drewN ?_ _ | refine blk_drew ?_ | refine blk_alloc ?_ _)); exact BK544.out⟩
            have n13_ : Aside0 ((((w73.setCell ⟨gb597, 0, none⟩ (.int .i64 t592)).setCell ⟨gb597, 1, none⟩ (.int .i64 t593)).setCell ⟨gb597, 2, none⟩ (.slice Ao79 t594.length co79)).heap[gb591]? = some (.cells #[.int .i64 t574, .int .i64 t575, .slice Ao67 t576.length co67, .slice Ao68 t579.length co68, .int .i64 t582, .int .i64 t583, .slice Ao69 t584.length co69, .slice Ao70 t587.length co70, .int .i64 t590] 29 (0, 0))) := ⟨by (with_reducible repeat (first | refine blk_drewN ?_ _ | refine blk_drew ?_ | refine blk_alloc ?_ _)); refine blk_far ?_ NB591_597.out _; (with_reducible repeat (first | refine blk_drewN ?_ _ | refine blk_drew ?_ | refine blk_alloc ?_ _)); refine blk_far ?_ NB591_597.out _; (with_reducible repeat (first | refine blk_drewN ?_ _ | refine blk_drew ?_ | refine blk_alloc ?_ _)); refine blk_far ?_ NB591_597.out _; (with_reducible repeat (first | refine blk_drewN ?_ _ | refine blk_drew ?_ | refine blk_alloc ?_ _)); exact BK591.out⟩
            have n14_ : Aside0 ((((w73.setCell ⟨gb597, 0, none⟩ (.int .i64 t592)).setCell ⟨gb597, 1, none⟩ (.int .i64 t593)).setCell ⟨gb597, 2, none⟩ (.slice Ao79 t594.length co79)).heap[gb597]? = some (.cells #[.int .i64 t592, .int .i64 t593, .slice Ao79 t594.length co79] 33 (0, 0))) := ⟨by (with_reducible repeat (first | refine blk_drewN ?_ _ | refine blk_drew ?_ | refine blk_alloc ?_ _)); refine blk_put (cs := #[.int .i64 t592, .int .i64 t593, .slice none 0 0]) ?_ 2 _ rfl; (with_reducible repeat (first | refine blk_drewN ?_ _ | refine blk_drew ?_ | refine blk_alloc ?_ _)); refine blk_put (cs := #[.int .i64 t592, .int .i64 0, .slice none 0 0]) ?_ 1 _ rfl; (with_reducible repeat (first | refine blk_drewN ?_ _ | refine blk_drew ?_ | refine blk_alloc ?_ _)); refine blk_put (cs := #[.int .i64 0, .int .i64 0, .slice none 0 0]) ?_ 0 _ rfl; (with_reducible repeat (first | refine blk_drewN ?_ _ | refine blk_drew ?_ | refine blk_alloc ?_ _)); exact BK597.out⟩
            have n15_ : Aside0 (Below w.heap.size w (((w73.setCell ⟨gb597, 0, none⟩ (.int .i64 t592)).setCell ⟨gb597, 1, none⟩ (.int .i64 t593)).setCell ⟨gb597, 2, none⟩ (.slice Ao79 t594.length co79))) := ⟨by repeat (first | (with_reducible first | exact HB.out | apply below_alloc | apply pw_below_drewN | apply below_drew1 | refine below_set ?_ GE542.out | refine below_set ?_ GE543.out | refine below_set ?_ GE544.out | refine below_set ?_ GE591.out | refine below_set ?_ GE597.out) | exact HB.out)⟩
            (try clear HO555)
            (try clear HO558)
            (try clear HO563)
            (try clear HO566)
            (try clear HO572)
            (try clear HO578)
            (try clear HO581)
            (try clear HO586)
            (try clear HO589)
            (try clear HO596)
            (try clear BK542)
            (try clear BK543)
            (try clear BK544)
            (try clear BK591)
            (try clear BK597)
            (try clear HB)
            generalize (((w73.setCell ⟨gb597, 0, none⟩ (.int .i64 t592)).setCell ⟨gb597, 1, none⟩ (.int .i64 t593)).setCell ⟨gb597, 2, none⟩ (.slice Ao79 t594.length co79)) = w80 at n0_ n1_ n2_ n3_ n4_ n5_ n6_ n7_ n8_ n9_ n10_ n11_ n12_ n13_ n14_ n15_ ⊢
            have HO555 := n0_
            have HO558 := n1_
            have HO563 := n2_
            have HO566 := n3_
            have HO572 := n4_
            have HO578 := n5_
            have HO581 := n6_
            have HO586 := n7_
            have HO589 := n8_
            have HO596 := n9_
            have BK542 := n10_
            have BK543 := n11_
            have BK544 := n12_
            have BK591 := n13_
            have BK597 := n14_
            have HB := n15_
            clear n0_ n1_ n2_ n3_ n4_ n5_ n6_ n7_ n8_ n9_ n10_ n11_ n12_ n13_ n14_ n15_
            have n0_ := Aside0.mk (Kd.R_drew HO555.out)
            have n1_ := Aside0.mk (Kd.R_drew HO558.out)
            have n2_ := Aside0.mk (Kd.R_drew HO563.out)
            have n3_ := Aside0.mk (Kd.R_drew HO566.out)
            have n4_ := Aside0.mk (Kd.R_drew HO572.out)
            have n5_ := Aside0.mk (Kd.R_drew HO578.out)
            have n6_ := Aside0.mk (Kd.R_drew HO581.out)
            have n7_ := Aside0.mk (Kd.R_drew HO586.out)
            have n8_ := Aside0.mk (Kd.R_drew HO589.out)
            have n9_ := Aside0.mk (Kd.R_drew HO596.out)
            have n10_ := Aside0.mk (blk_drew BK542.out)
            have n11_ := Aside0.mk (blk_drew BK543.out)
            have n12_ := Aside0.mk (blk_drew BK544.out)
            have n13_ := Aside0.mk (blk_drew BK591.out)
            have n14_ := Aside0.mk (blk_drew BK597.out)
            have n15_ := Aside0.mk (below_drew1 HB.out)
            clear HO555
            clear HO558
            clear HO563
            clear HO566
            clear HO572
            clear HO578
            clear HO581
            clear HO586
            clear HO589
            clear HO596
            clear BK542
            clear BK543
            clear BK544
            clear BK591
            clear BK597
            clear HB
            have HO555 := n0_
            have HO558 := n1_
            have HO563 := n2_
            have HO566 := n3_
            have HO572 := n4_
            have HO578 := n5_
            have HO581 := n6_
            have HO586 := n7_
            have HO589 := n8_
            have HO596 := n9_
            have BK542 := n10_
            have BK543 := n11_
            have BK544 := n12_
            have BK591 := n13_
            have BK597 := n14_
            have HB := n15_
            clear n0_ n1_ n2_ n3_ n4_ n5_ n6_ n7_ n8_ n9_ n10_ n11_ n12_ n13_ n14_ n15_
            refine start_ (n := 6) (S := fun w' => w'.cell? ⟨gb542, 0, none⟩ = some (.int .i64 a0_0) ∧ w'.cell? ⟨gb542, 1, none⟩ = some (.int .i64 a0_1) ∧ w'.cell? ⟨gb542, 2, none⟩ = some (.int .i64 a0_2) ∧ w'.cell? ⟨gb542, 3, none⟩ = some (.int .i64 a0_3) ∧ w'.cell? ⟨gb591, 0, none⟩ = some (.int .i64 t574) ∧ w'.cell? ⟨gb591, 1, none⟩ = some (.int .i64 t575) ∧ w'.cell? ⟨gb591, 2, none⟩ = some (.slice Ao67 t576.length co67) ∧ w'.cell? ⟨gb591, 3, none⟩ = some (.slice Ao68 t579.length co68) ∧ w'.cell? ⟨gb591, 4, none⟩ = some (.int .i64 t582) ∧ w'.cell? ⟨gb591, 5, none⟩ = some (.int .i64 t583) ∧ w'.cell? ⟨gb591, 6, none⟩ = some (.slice Ao69 t584.length co69) ∧ w'.cell? ⟨gb591, 7, none⟩ = some (.slice Ao70 t587.length co70) ∧ w'.cell? ⟨gb591, 8, none⟩ = some (.int .i64 t590) ∧ w'.cell? ⟨gb597, 0, none⟩ = some (.int .i64 t592) ∧ w'.cell? ⟨gb597, 1, none⟩ = some (.int .i64 t593) ∧ w'.cell? ⟨gb597, 2, none⟩ = some (.slice Ao79 t594.length co79)) (ds := []) #[false, false, false, false, false, false] (by kernel_rfl) rfl rfl ⟨(blk_cell BK542.out 0).trans rfl, (blk_cell BK542.out 1).trans rfl, (blk_cell BK542.out 2).trans rfl, (blk_cell BK542.out 3).trans rfl, (blk_cell BK591.out 0).trans rfl, (blk_cell BK591.out 1).trans rfl, (blk_cell BK591.out 2).trans rfl, (blk_cell BK591.out 3).trans rfl, (blk_cell BK591.out 4).trans rfl, (blk_cell BK591.out 5).trans rfl, (blk_cell BK591.out 6).trans rfl, (blk_cell BK591.out 7).trans rfl, (blk_cell BK591.out 8).trans rfl, (blk_cell BK597.out 0).trans rfl, (blk_cell BK597.out 1).trans rfl, (blk_cell BK597.out 2).trans rfl⟩ (fun hHeld => ?_)
            generalize w80.drew = w81 at HO555 HO558 HO563 HO566 HO572 HO578 HO581 HO586 HO589 HO596 BK542 BK543 BK544 BK591 BK597 HB hHeld ⊢
            refine take_ (i := 0) (N := some 33) (v := ?_) (a' := ?_) #[true, false, false, false, false, false] rfl rfl (by kernel_rfl) (fun _ _ _ h => h) (Or.inl ⟨by rfl, ?_⟩) hHeld ?_ ?_
            rotate_left
            · rintro w' ⟨s0, s1, s2, s3, s4, s5, s6, s7, s8, s9, s10, s11, s12, s13, s14, s15⟩
              go_simp
              with_reducible rfl
            rotate_left
            · simp only [Act.put, List.setIfInBounds_toArray, List.set_cons_zero, List.set_cons_succ, i64_w, i32_w]
              rfl
            refine take_ (i := 2) (N := some 35) (v := ?_) (a' := ?_) #[true, false, true, false, false, false] rfl rfl (by kernel_rfl) (fun _ _ _ h => h) (Or.inl ⟨by rfl, ?_⟩) hHeld ?_ ?_
            rotate_left
            · rintro w' ⟨s0, s1, s2, s3, s4, s5, s6, s7, s8, s9, s10, s11, s12, s13, s14, s15⟩
              go_simp
              with_reducible rfl
            rotate_left
            · simp only [Act.put, List.setIfInBounds_toArray, List.set_cons_zero, List.set_cons_succ, i64_w, i32_w]
              rfl
            refine take_ (i := 3) (N := some 36) (v := ?_) (a' := ?_) #[true, false, true, true, false, false] rfl rfl (by kernel_rfl) (fun _ _ _ h => h) (Or.inl ⟨by rfl, ?_⟩) hHeld ?_ ?_
            rotate_left
            · rintro w' ⟨s0, s1, s2, s3, s4, s5, s6, s7, s8, s9, s10, s11, s12, s13, s14, s15⟩
              go_simp
              with_reducible rfl
            rotate_left
            · simp only [Act.put, List.setIfInBounds_toArray, List.set_cons_zero, List.set_cons_succ, i64_w, i32_w]
              rfl
            refine one_ (i := 1) (N := some 34) #[true, true, true, true, false, false] rfl rfl (by kernel_rfl) (by decide) (fun K hK => ?_)
            refine goes_ Try.func14 (by kernel_rfl) rfl #[.agg #[.int .i64 a0_0, .int .i64 a0_1, .int .i64 a0_2, .int .i64 a0_3]] (by rfl) rfl rfl (by (try simp only [List.map_toArray, List.map_cons, List.map_nil]); first | done | rfl | (simp only [List.length_drop, List.length_take]; rfl)) ?_
            with_reducible refine (laws_toAsk.calls a0_0 a0_1 a0_2 a0_3 t598 t599 t600 t601 _ A31.out).mono ?_
            rintro e w82 ⟨rfl, hb⟩
            refine ⟨_, rfl, ?_⟩
            have n0_ := Aside0.mk (Kd.R_below (by (with_reducible repeat (first | apply Kd.R_alloc | apply Kd.R_drewN | apply Kd.R_drew)); exact HO555.out) hb)
            have n1_ := Aside0.mk (Kd.R_below (by (with_reducible repeat (first | apply Kd.R_alloc | apply Kd.R_drewN | apply Kd.R_drew)); exact HO558.out) hb)
            have n2_ := Aside0.mk (Kd.R_below (by (with_reducible repeat (first | apply Kd.R_alloc | apply Kd.R_drewN | apply Kd.R_drew)); exact HO563.out) hb)
            have n3_ := Aside0.mk (Kd.R_below (by (with_reducible repeat (first | apply Kd.R_alloc | apply Kd.R_drewN | apply Kd.R_drew)); exact HO566.out) hb)
            have n4_ := Aside0.mk (Kd.R_below (by (with_reducible repeat (first | apply Kd.R_alloc | apply Kd.R_drewN | apply Kd.R_drew)); exact HO572.out) hb)
            have n5_ := Aside0.mk (Kd.R_below (by (with_reducible repeat (first | apply Kd.R_alloc | apply Kd.R_drewN | apply Kd.R_drew)); exact HO578.out) hb)
            have n6_ := Aside0.mk (Kd.R_below (by (with_reducible repeat (first | apply Kd.R_alloc | apply Kd.R_drewN | apply Kd.R_drew)); exact HO581.out) hb)
            have n7_ := Aside0.mk (Kd.R_below (by (with_reducible repeat (first | apply Kd.R_alloc | apply Kd.R_drewN | apply Kd.R_drew)); exact HO586.out) hb)
            have n8_ := Aside0.mk (Kd.R_below (by (with_reducible repeat (first | apply Kd.R_alloc | apply Kd.R_drewN | apply Kd.R_drew)); exact HO589.out) hb)
            have n9_ := Aside0.mk (Kd.R_below (by (with_reducible repeat (first | apply Kd.R_alloc | apply Kd.R_drewN | apply Kd.R_drew)); exact HO596.out) hb)
            have n10_ := Aside0.mk (blk_below (g := gb542) (o := .cells #[.int .i64 a0_0, .int .i64 a0_1, .int .i64 a0_2, .int .i64 a0_3] 43 (0, 0)) (by (with_reducible repeat (first | refine blk_drewN ?_ _ | refine blk_drew ?_ | refine blk_alloc ?_ _)); exact BK542.out) hb)
            have n11_ := Aside0.mk (blk_below (g := gb543) (o := .cells #[.int .i64 a1_0, .int .i64 a1_1, .slice A1_2 l1_2.length c1_2, .slice A1_3 l1_3.length c1_3, .int .i64 a1_4, .int .i64 a1_5, .slice A1_6 l1_6.length c1_6, .slice A1_7 l1_7.length c1_7, .int .i64 a1_8] 46 (0, 0)) (by (with_reducible repeat (first | refine blk_drewN ?_ _ | refine blk_drew ?_ | refine blk_alloc ?_ _)); exact BK543.out) hb)
            have n12_ := Aside0.mk (blk_below (g := gb544) (o := .cells #[.int .i64 a2_0, .int .i64 a2_1, .slice A2_2 l2_2.length c2_2] 49 (0, 0)) (by (with_reducible repeat (first | refine blk_drewN ?_ _ | refine blk_drew ?_ | refine blk_alloc ?_ _)); exact BK544.out) hb)
            have n13_ := Aside0.mk (blk_below (g := gb591) (o := .cells #[.int .i64 t574, .int .i64 t575, .slice Ao67 t576.length co67, .slice Ao68 t579.length co68, .int .i64 t582, .int .i64 t583, .slice Ao69 t584.length co69, .slice Ao70 t587.length co70, .int .i64 t590] 29 (0, 0)) (by (with_reducible repeat (first | refine blk_drewN ?_ _ | refine blk_drew ?_ | refine blk_alloc ?_ _)); exact BK591.out) hb)
            have n14_ := Aside0.mk (blk_below (g := gb597) (o := .cells #[.int .i64 t592, .int .i64 t593, .slice Ao79 t594.length co79] 33 (0, 0)) (by (with_reducible repeat (first | refine blk_drewN ?_ _ | refine blk_drew ?_ | refine blk_alloc ?_ _)); exact BK597.out) hb)
            have n15_ := Aside0.mk (below_step (by repeat (first | (with_reducible first | exact HB.out | apply below_alloc | apply pw_below_drewN | apply below_drew1 | refine below_set ?_ GE542.out | refine below_set ?_ GE543.out | refine below_set ?_ GE544.out | refine below_set ?_ GE591.out | refine below_set ?_ GE597.out) | exact HB.out)) hb)
            clear HO555
            clear HO558
            clear HO563
            clear HO566
            clear HO572
            clear HO578
            clear HO581
            clear HO586
            clear HO589
            clear HO596
            clear BK542
            clear BK543
            clear BK544
            clear BK591
            clear BK597
            clear HB
            have HO555 := n0_
            have HO558 := n1_
            have HO563 := n2_
            have HO566 := n3_
            have HO572 := n4_
            have HO578 := n5_
            have HO581 := n6_
            have HO586 := n7_
            have HO589 := n8_
            have HO596 := n9_
            have BK542 := n10_
            have BK543 := n11_
            have BK544 := n12_
            have BK591 := n13_
            have BK597 := n14_
            have HB := n15_
            clear n0_ n1_ n2_ n3_ n4_ n5_ n6_ n7_ n8_ n9_ n10_ n11_ n12_ n13_ n14_ n15_
            (try clear hb)
            (try clear hb2)
            (try clear hk)
            (try clear hi)
            refine hK.out _ _ ⟨(blk_cell BK542.out 0).trans rfl, (blk_cell BK542.out 1).trans rfl, (blk_cell BK542.out 2).trans rfl, (blk_cell BK542.out 3).trans rfl, (blk_cell BK591.out 0).trans rfl, (blk_cell BK591.out 1).trans rfl, (blk_cell BK591.out 2).trans rfl, (blk_cell BK591.out 3).trans rfl, (blk_cell BK591.out 4).trans rfl, (blk_cell BK591.out 5).trans rfl, (blk_cell BK591.out 6).trans rfl, (blk_cell BK591.out 7).trans rfl, (blk_cell BK591.out 8).trans rfl, (blk_cell BK597.out 0).trans rfl, (blk_cell BK597.out 1).trans rfl, (blk_cell BK597.out 2).trans rfl⟩ (fun hHeld => ?_)
            clear hK K
            refine norm_ (a' := ?_) ?_ ?_
            rotate_left
            · show Act.put _ (some 34) _ = _
              simp only [Act.put, List.setIfInBounds_toArray, List.set_cons_zero, List.set_cons_succ, i64_w, i32_w]
              rfl
            refine one_ (i := 4) (N := some 37) #[true, true, true, true, true, false] rfl rfl (by kernel_rfl) (by decide) (fun K hK => ?_)
            refine goes_ Try.func17 (by kernel_rfl) rfl #[.agg #[.int .i64 t598, .int .i64 t599, .int .i64 t600, .int .i64 t601], .agg #[.int .i64 t574, .int .i64 t575, .slice Ao67 t576.length co67, .slice Ao68 t579.length co68, .int .i64 t582, .int .i64 t583, .slice Ao69 t584.length co69, .slice Ao70 t587.length co70, .int .i64 t590], .agg #[.int .i64 t592, .int .i64 t593, .slice Ao79 t594.length co79]] (by rfl) rfl rfl (by (try simp only [List.map_toArray, List.map_cons, List.map_nil]); first | done | rfl | (simp only [List.length_drop, List.length_take]; rfl)) ?_
            with_reducible refine (impl_AskMay.calls t598 t599 t600 t601 t574 t575 _ _ t576 _ _ t579 t582 t583 _ _ t584 _ _ t587 t590 t592 t593 _ _ t594 t602 _ ?side1 ?side2 ?side3 ?side4 ?side5 ?side6 ?side7 ?side8 ?side9 ?side10 A32.out).mono ?_
            (case side1 => repeat (first | exact (Kd.R_reads' HO578.out).2.2 | (with_reducible refine Kd.C_alloc ?_ _) | (with_reducible refine Kd.C_drewN ?_ _) | (with_reducible refine Kd.C_drew ?_)))
            (case side2 => exact (Kd.R_reads' HO578.out).2.1)
            (case side3 => repeat (first | exact (Kd.R_reads' HO581.out).2.2 | (with_reducible refine Kd.C_alloc ?_ _) | (with_reducible refine Kd.C_drewN ?_ _) | (with_reducible refine Kd.C_drew ?_)))
            (case side4 => exact (Kd.R_reads' HO581.out).2.1)
            (case side5 => repeat (first | exact (Kd.R_reads' HO586.out).2.2 | (with_reducible refine Kd.C_alloc ?_ _) | (with_reducible refine Kd.C_drewN ?_ _) | (with_reducible refine Kd.C_drew ?_)))
            (case side6 => exact (Kd.R_reads' HO586.out).2.1)
            (case side7 => repeat (first | exact (Kd.R_reads' HO589.out).2.2 | (with_reducible refine Kd.C_alloc ?_ _) | (with_reducible refine Kd.C_drewN ?_ _) | (with_reducible refine Kd.C_drew ?_)))
            (case side8 => exact (Kd.R_reads' HO589.out).2.1)
            (case side9 => repeat (first | exact (Kd.R_reads' HO596.out).2.2 | (with_reducible refine Kd.C_alloc ?_ _) | (with_reducible refine Kd.C_drewN ?_ _) | (with_reducible refine Kd.C_drew ?_)))
            (case side10 => exact (Kd.R_reads' HO596.out).2.1)
            rintro e w83 ⟨rfl, hb⟩
            refine ⟨_, rfl, ?_⟩
            have n0_ := Aside0.mk (Kd.R_below (by (with_reducible repeat (first | apply Kd.R_alloc | apply Kd.R_drewN | apply Kd.R_drew)); exact HO555.out) hb)
            have n1_ := Aside0.mk (Kd.R_below (by (with_reducible repeat (first | apply Kd.R_alloc | apply Kd.R_drewN | apply Kd.R_drew)); exact HO558.out) hb)
            have n2_ := Aside0.mk (Kd.R_below (by (with_reducible repeat (first | apply Kd.R_alloc | apply Kd.R_drewN | apply Kd.R_drew)); exact HO563.out) hb)
            have n3_ := Aside0.mk (Kd.R_below (by (with_reducible repeat (first | apply Kd.R_alloc | apply Kd.R_drewN | apply Kd.R_drew)); exact HO566.out) hb)
            have n4_ := Aside0.mk (Kd.R_below (by (with_reducible repeat (first | apply Kd.R_alloc | apply Kd.R_drewN | apply Kd.R_drew)); exact HO572.out) hb)
            have n5_ := Aside0.mk (Kd.R_below (by (with_reducible repeat (first | apply Kd.R_alloc | apply Kd.R_drewN | apply Kd.R_drew)); exact HO578.out) hb)
            have n6_ := Aside0.mk (Kd.R_below (by (with_reducible repeat (first | apply Kd.R_alloc | apply Kd.R_drewN | apply Kd.R_drew)); exact HO581.out) hb)
            have n7_ := Aside0.mk (Kd.R_below (by (with_reducible repeat (first | apply Kd.R_alloc | apply Kd.R_drewN | apply Kd.R_drew)); exact HO586.out) hb)
            have n8_ := Aside0.mk (Kd.R_below (by (with_reducible repeat (first | apply Kd.R_alloc | apply Kd.R_drewN | apply Kd.R_drew)); exact HO589.out) hb)
            have n9_ := Aside0.mk (Kd.R_below (by (with_reducible repeat (first | apply Kd.R_alloc | apply Kd.R_drewN | apply Kd.R_drew)); exact HO596.out) hb)
            have n10_ := Aside0.mk (blk_below (g := gb542) (o := .cells #[.int .i64 a0_0, .int .i64 a0_1, .int .i64 a0_2, .int .i64 a0_3] 43 (0, 0)) (by (with_reducible repeat (first | refine blk_drewN ?_ _ | refine blk_drew ?_ | refine blk_alloc ?_ _)); exact BK542.out) hb)
            have n11_ := Aside0.mk (blk_below (g := gb543) (o := .cells #[.int .i64 a1_0, .int .i64 a1_1, .slice A1_2 l1_2.length c1_2, .slice A1_3 l1_3.length c1_3, .int .i64 a1_4, .int .i64 a1_5, .slice A1_6 l1_6.length c1_6, .slice A1_7 l1_7.length c1_7, .int .i64 a1_8] 46 (0, 0)) (by (with_reducible repeat (first | refine blk_drewN ?_ _ | refine blk_drew ?_ | refine blk_alloc ?_ _)); exact BK543.out) hb)
            have n12_ := Aside0.mk (blk_below (g := gb544) (o := .cells #[.int .i64 a2_0, .int .i64 a2_1, .slice A2_2 l2_2.length c2_2] 49 (0, 0)) (by (with_reducible repeat (first | refine blk_drewN ?_ _ | refine blk_drew ?_ | refine blk_alloc ?_ _)); exact BK544.out) hb)
            have n13_ := Aside0.mk (blk_below (g := gb591) (o := .cells #[.int .i64 t574, .int .i64 t575, .slice Ao67 t576.length co67, .slice Ao68 t579.length co68, .int .i64 t582, .int .i64 t583, .slice Ao69 t584.length co69, .slice Ao70 t587.length co70, .int .i64 t590] 29 (0, 0)) (by (with_reducible repeat (first | refine blk_drewN ?_ _ | refine blk_drew ?_ | refine blk_alloc ?_ _)); exact BK591.out) hb)
            have n14_ := Aside0.mk (blk_below (g := gb597) (o := .cells #[.int .i64 t592, .int .i64 t593, .slice Ao79 t594.length co79] 33 (0, 0)) (by (with_reducible repeat (first | refine blk_drewN ?_ _ | refine blk_drew ?_ | refine blk_alloc ?_ _)); exact BK597.out) hb)
            have n15_ := Aside0.mk (below_step (by repeat (first | (with_reducible first | exact HB.out | apply below_alloc | apply pw_below_drewN | apply below_drew1 | refine below_set ?_ GE542.out | refine below_set ?_ GE543.out | refine below_set ?_ GE544.out | refine below_set ?_ GE591.out | refine below_set ?_ GE597.out) | exact HB.out)) hb)
            clear HO555
            clear HO558
            clear HO563
            clear HO566
            clear HO572
            clear HO578
            clear HO581
            clear HO586
            clear HO589
            clear HO596
            clear BK542
            clear BK543
            clear BK544
            clear BK591
            clear BK597
            clear HB
            have HO555 := n0_
            have HO558 := n1_
            have HO563 := n2_
            have HO566 := n3_
            have HO572 := n4_
            have HO578 := n5_
            have HO581 := n6_
            have HO586 := n7_
            have HO589 := n8_
            have HO596 := n9_
            have BK542 := n10_
            have BK543 := n11_
            have BK544 := n12_
            have BK591 := n13_
            have BK597 := n14_
            have HB := n15_
            clear n0_ n1_ n2_ n3_ n4_ n5_ n6_ n7_ n8_ n9_ n10_ n11_ n12_ n13_ n14_ n15_
            (try clear hb)
            (try clear hb2)
            (try clear hk)
            (try clear hi)
            refine hK.out _ _ ⟨(blk_cell BK542.out 0).trans rfl, (blk_cell BK542.out 1).trans rfl, (blk_cell BK542.out 2).trans rfl, (blk_cell BK542.out 3).trans rfl, (blk_cell BK591.out 0).trans rfl, (blk_cell BK591.out 1).trans rfl, (blk_cell BK591.out 2).trans rfl, (blk_cell BK591.out 3).trans rfl, (blk_cell BK591.out 4).trans rfl, (blk_cell BK591.out 5).trans rfl, (blk_cell BK591.out 6).trans rfl, (blk_cell BK591.out 7).trans rfl, (blk_cell BK591.out 8).trans rfl, (blk_cell BK597.out 0).trans rfl, (blk_cell BK597.out 1).trans rfl, (blk_cell BK597.out 2).trans rfl⟩ (fun hHeld => ?_)
            clear hK K
            refine norm_ (a' := ?_) ?_ ?_
            rotate_left
            · show Act.put _ (some 37) _ = _
              simp only [Act.put, List.setIfInBounds_toArray, List.set_cons_zero, List.set_cons_succ, i64_w, i32_w]
              rfl
            refine pure_ (i := 5) (N := some 11) (v := ?_) (a' := ?_) #[true, true, true, true, true, true] rfl rfl (by kernel_rfl) (fun _ _ _ h => h) (Or.inl ⟨by rfl, ?_⟩) ?_ ?_
            rotate_left
            · intro w'
              go_simp
              with_reducible rfl
            rotate_left
            · simp only [Act.put, List.setIfInBounds_toArray, List.set_cons_zero, List.set_cons_succ, i64_w, i32_w]
              rfl
            refine done_ (by kernel_rfl) ?_
            try go_wp2
            have n0_ := Aside0.mk (Kd.R_drew HO555.out)
            have n1_ := Aside0.mk (Kd.R_drew HO558.out)
            have n2_ := Aside0.mk (Kd.R_drew HO563.out)
            have n3_ := Aside0.mk (Kd.R_drew HO566.out)
            have n4_ := Aside0.mk (Kd.R_drew HO572.out)
            have n5_ := Aside0.mk (Kd.R_drew HO578.out)
            have n6_ := Aside0.mk (Kd.R_drew HO581.out)
            have n7_ := Aside0.mk (Kd.R_drew HO586.out)
            have n8_ := Aside0.mk (Kd.R_drew HO589.out)
            have n9_ := Aside0.mk (Kd.R_drew HO596.out)
            have n10_ := Aside0.mk (blk_drew BK542.out)
            have n11_ := Aside0.mk (blk_drew BK543.out)
            have n12_ := Aside0.mk (blk_drew BK544.out)
            have n13_ := Aside0.mk (blk_drew BK591.out)
            have n14_ := Aside0.mk (blk_drew BK597.out)
            have n15_ := Aside0.mk (below_drew1 HB.out)
            clear HO555
            clear HO558
            clear HO563
            clear HO566
            clear HO572
            clear HO578
            clear HO581
            clear HO586
            clear HO589
            clear HO596
            clear BK542
            clear BK543
            clear BK544
            clear BK591
            clear BK597
            clear HB
            have HO555 := n0_
            have HO558 := n1_
            have HO563 := n2_
            have HO566 := n3_
            have HO572 := n4_
            have HO578 := n5_
            have HO581 := n6_
            have HO586 := n7_
            have HO589 := n8_
            have HO596 := n9_
            have BK542 := n10_
            have BK543 := n11_
            have BK544 := n12_
            have BK591 := n13_
            have BK597 := n14_
            have HB := n15_
            clear n0_ n1_ n2_ n3_ n4_ n5_ n6_ n7_ n8_ n9_ n10_ n11_ n12_ n13_ n14_ n15_
            refine start_ (n := 5) (S := fun w' => w'.cell? ⟨gb591, 0, none⟩ = some (.int .i64 t574) ∧ w'.cell? ⟨gb591, 1, none⟩ = some (.int .i64 t575) ∧ w'.cell? ⟨gb591, 2, none⟩ = some (.slice Ao67 t576.length co67) ∧ w'.cell? ⟨gb591, 3, none⟩ = some (.slice Ao68 t579.length co68) ∧ w'.cell? ⟨gb591, 4, none⟩ = some (.int .i64 t582) ∧ w'.cell? ⟨gb591, 5, none⟩ = some (.int .i64 t583) ∧ w'.cell? ⟨gb591, 6, none⟩ = some (.slice Ao69 t584.length co69) ∧ w'.cell? ⟨gb591, 7, none⟩ = some (.slice Ao70 t587.length co70) ∧ w'.cell? ⟨gb591, 8, none⟩ = some (.int .i64 t590) ∧ w'.cell? ⟨gb543, 0, none⟩ = some (.int .i64 a1_0) ∧ w'.cell? ⟨gb543, 1, none⟩ = some (.int .i64 a1_1) ∧ w'.cell? ⟨gb543, 2, none⟩ = some (.slice A1_2 l1_2.length c1_2) ∧ w'.cell? ⟨gb543, 3, none⟩ = some (.slice A1_3 l1_3.length c1_3) ∧ w'.cell? ⟨gb543, 4, none⟩ = some (.int .i64 a1_4) ∧ w'.cell? ⟨gb543, 5, none⟩ = some (.int .i64 a1_5) ∧ w'.cell? ⟨gb543, 6, none⟩ = some (.slice A1_6 l1_6.length c1_6) ∧ w'.cell? ⟨gb543, 7, none⟩ = some (.slice A1_7 l1_7.length c1_7) ∧ w'.cell? ⟨gb543, 8, none⟩ = some (.int .i64 a1_8)) (ds := []) #[false, false, false, false, false] (by kernel_rfl) rfl rfl ⟨(blk_cell BK591.out 0).trans rfl, (blk_cell BK591.out 1).trans rfl, (blk_cell BK591.out 2).trans rfl, (blk_cell BK591.out 3).trans rfl, (blk_cell BK591.out 4).trans rfl, (blk_cell BK591.out 5).trans rfl, (blk_cell BK591.out 6).trans rfl, (blk_cell BK591.out 7).trans rfl, (blk_cell BK591.out 8).trans rfl, (blk_cell BK543.out 0).trans rfl, (blk_cell BK543.out 1).trans rfl, (blk_cell BK543.out 2).trans rfl, (blk_cell BK543.out 3).trans rfl, (blk_cell BK543.out 4).trans rfl, (blk_cell BK543.out 5).trans rfl, (blk_cell BK543.out 6).trans rfl, (blk_cell BK543.out 7).trans rfl, (blk_cell BK543.out 8).trans rfl⟩ (fun hHeld => ?_)
            generalize w83.drew = w84 at HO555 HO558 HO563 HO566 HO572 HO578 HO581 HO586 HO589 HO596 BK542 BK543 BK544 BK591 BK597 HB hHeld ⊢
            refine take_ (i := 0) (N := some 41) (v := ?_) (a' := ?_) #[true, false, false, false, false] rfl rfl (by kernel_rfl) (fun _ _ _ h => h) (Or.inl ⟨by rfl, ?_⟩) hHeld ?_ ?_
            rotate_left
            · rintro w' ⟨s0, s1, s2, s3, s4, s5, s6, s7, s8, s9, s10, s11, s12, s13, s14, s15, s16, s17⟩
              go_simp
              with_reducible rfl
            rotate_left
            · simp only [Act.put, List.setIfInBounds_toArray, List.set_cons_zero, List.set_cons_succ, i64_w, i32_w]
              rfl
            refine take_ (i := 1) (N := some 42) (v := ?_) (a' := ?_) #[true, true, false, false, false] rfl rfl (by kernel_rfl) (fun _ _ _ h => h) (Or.inl ⟨by rfl, ?_⟩) hHeld ?_ ?_
            rotate_left
            · rintro w' ⟨s0, s1, s2, s3, s4, s5, s6, s7, s8, s9, s10, s11, s12, s13, s14, s15, s16, s17⟩
              go_simp
              with_reducible rfl
            rotate_left
            · simp only [Act.put, List.setIfInBounds_toArray, List.set_cons_zero, List.set_cons_succ, i64_w, i32_w]
              rfl
            refine one_ (i := 2) (N := some 43) #[true, true, true, false, false] rfl rfl (by kernel_rfl) (by decide) (fun K hK => ?_)
            refine goes_ Try.func15 (by kernel_rfl) rfl #[.agg #[.int .i64 a1_0, .int .i64 a1_1, .slice A1_2 l1_2.length c1_2, .slice A1_3 l1_3.length c1_3, .int .i64 a1_4, .int .i64 a1_5, .slice A1_6 l1_6.length c1_6, .slice A1_7 l1_7.length c1_7, .int .i64 a1_8]] (by rfl) rfl rfl (by (try simp only [List.map_toArray, List.map_cons, List.map_nil]); first | done | rfl | (simp only [List.length_drop, List.length_take]; rfl)) ?_
            with_reducible refine (laws_toBatch.calls a1_0 a1_1 _ _ l1_2 _ _ l1_3 a1_4 a1_5 _ _ l1_6 _ _ l1_7 a1_8 t603 t604 t605 t608 t611 t612 t613 t616 t619 _ ?side1 ?side2 ?side3 ?side4 ?side5 ?side6 ?side7 ?side8 A34.out).mono ?_
            (case side1 => repeat (first | exact (Kd.C_below HR1_2.out HB.out) | (with_reducible refine Kd.C_alloc ?_ _) | (with_reducible refine Kd.C_drewN ?_ _) | (with_reducible refine Kd.C_drew ?_)))
            (case side2 => exact HC1_2.out)
            (case side3 => repeat (first | exact (Kd.C_below HR1_3.out HB.out) | (with_reducible refine Kd.C_alloc ?_ _) | (with_reducible refine Kd.C_drewN ?_ _) | (with_reducible refine Kd.C_drew ?_)))
            (case side4 => exact HC1_3.out)
            (case side5 => repeat (first | exact (Kd.C_below HR1_6.out HB.out) | (with_reducible refine Kd.C_alloc ?_ _) | (with_reducible refine Kd.C_drewN ?_ _) | (with_reducible refine Kd.C_drew ?_)))
            (case side6 => exact HC1_6.out)
            (case side7 => repeat (first | exact (Kd.C_below HR1_7.out HB.out) | (with_reducible refine Kd.C_alloc ?_ _) | (with_reducible refine Kd.C_drewN ?_ _) | (with_reducible refine Kd.C_drew ?_)))
            (case side8 => exact HC1_7.out)
            rintro e w85 ⟨v606, v609, v614, v617, rfl, ho0, ho1, ho2, ho3, hb⟩
            refine ⟨_, rfl, ?_⟩
            have n0_ := Aside0.mk (Kd.R_mono (Kd.R_told (Kd.R_told (Kd.R_told (Kd.R_told (Kd.R_old (by (with_reducible repeat (first | apply Kd.R_alloc | apply Kd.R_drewN | apply Kd.R_drew)); exact HO555.out) hb) (Kd.R_base ho0)) (Kd.R_base ho1)) (Kd.R_base ho2)) (Kd.R_base ho3)) (fun _ h_ => h_.1))
            have n1_ := Aside0.mk (Kd.R_mono (Kd.R_told (Kd.R_told (Kd.R_told (Kd.R_told (Kd.R_old (by (with_reducible repeat (first | apply Kd.R_alloc | apply Kd.R_drewN | apply Kd.R_drew)); exact HO558.out) hb) (Kd.R_base ho0)) (Kd.R_base ho1)) (Kd.R_base ho2)) (Kd.R_base ho3)) (fun _ h_ => h_.1))
            have n2_ := Aside0.mk (Kd.R_mono (Kd.R_told (Kd.R_told (Kd.R_told (Kd.R_told (Kd.R_old (by (with_reducible repeat (first | apply Kd.R_alloc | apply Kd.R_drewN | apply Kd.R_drew)); exact HO563.out) hb) (Kd.R_base ho0)) (Kd.R_base ho1)) (Kd.R_base ho2)) (Kd.R_base ho3)) (fun _ h_ => h_.1))
            have n3_ := Aside0.mk (Kd.R_mono (Kd.R_told (Kd.R_told (Kd.R_told (Kd.R_told (Kd.R_old (by (with_reducible repeat (first | apply Kd.R_alloc | apply Kd.R_drewN | apply Kd.R_drew)); exact HO566.out) hb) (Kd.R_base ho0)) (Kd.R_base ho1)) (Kd.R_base ho2)) (Kd.R_base ho3)) (fun _ h_ => h_.1))
            have n4_ := Aside0.mk (Kd.R_below (by (with_reducible repeat (first | apply Kd.R_alloc | apply Kd.R_drewN | apply Kd.R_drew)); exact HO572.out) hb)
            have n5_ := Aside0.mk (Kd.R_mono (Kd.R_told (Kd.R_told (Kd.R_told (Kd.R_told (Kd.R_old (by (with_reducible repeat (first | apply Kd.R_alloc | apply Kd.R_drewN | apply Kd.R_drew)); exact HO578.out) hb) (Kd.R_base ho0)) (Kd.R_base ho1)) (Kd.R_base ho2)) (Kd.R_base ho3)) (fun _ h_ => h_.1))
            have n6_ := Aside0.mk (Kd.R_mono (Kd.R_told (Kd.R_told (Kd.R_told (Kd.R_told (Kd.R_old (by (with_reducible repeat (first | apply Kd.R_alloc | apply Kd.R_drewN | apply Kd.R_drew)); exact HO581.out) hb) (Kd.R_base ho0)) (Kd.R_base ho1)) (Kd.R_base ho2)) (Kd.R_base ho3)) (fun _ h_ => h_.1))
            have n7_ := Aside0.mk (Kd.R_mono (Kd.R_told (Kd.R_told (Kd.R_told (Kd.R_told (Kd.R_old (by (with_reducible repeat (first | apply Kd.R_alloc | apply Kd.R_drewN | apply Kd.R_drew)); exact HO586.out) hb) (Kd.R_base ho0)) (Kd.R_base ho1)) (Kd.R_base ho2)) (Kd.R_base ho3)) (fun _ h_ => h_.1))
            have n8_ := Aside0.mk (Kd.R_mono (Kd.R_told (Kd.R_told (Kd.R_told (Kd.R_told (Kd.R_old (by (with_reducible repeat (first | apply Kd.R_alloc | apply Kd.R_drewN | apply Kd.R_drew)); exact HO589.out) hb) (Kd.R_base ho0)) (Kd.R_base ho1)) (Kd.R_base ho2)) (Kd.R_base ho3)) (fun _ h_ => h_.1))
            have n9_ := Aside0.mk (Kd.R_below (by (with_reducible repeat (first | apply Kd.R_alloc | apply Kd.R_drewN | apply Kd.R_drew)); exact HO596.out) hb)
            have n10_ := Aside0.mk (Kd.R_lower (Kd.R_new' (Kd.R_new' (Kd.R_new' (Kd.R_new' (Kd.R_new' (Kd.R_new' (Kd.R_new' (Kd.R_new' ho0 (Kd.R_lt (by (with_reducible repeat (first | apply Kd.R_alloc | apply Kd.R_drewN | apply Kd.R_drew)); exact HO555.out))) (Kd.R_lt (by (with_reducible repeat (first | apply Kd.R_alloc | apply Kd.R_drewN | apply Kd.R_drew)); exact HO558.out))) (Kd.R_lt (by (with_reducible repeat (first | apply Kd.R_alloc | apply Kd.R_drewN | apply Kd.R_drew)); exact HO563.out))) (Kd.R_lt (by (with_reducible repeat (first | apply Kd.R_alloc | apply Kd.R_drewN | apply Kd.R_drew)); exact HO566.out))) (Kd.R_lt (by (with_reducible repeat (first | apply Kd.R_alloc | apply Kd.R_drewN | apply Kd.R_drew)); exact HO578.out))) (Kd.R_lt (by (with_reducible repeat (first | apply Kd.R_alloc | apply Kd.R_drewN | apply Kd.R_drew)); exact HO581.out))) (Kd.R_lt (by (with_reducible repeat (first | apply Kd.R_alloc | apply Kd.R_drewN | apply Kd.R_drew)); exact HO586.out))) (Kd.R_lt (by (with_reducible repeat (first | apply Kd.R_alloc | apply Kd.R_drewN | apply Kd.R_drew)); exact HO589.out))) (below_size (by repeat (first | (with_reducible first | exact HB.out | apply below_alloc | apply pw_below_drewN | apply below_drew1 | refine below_set ?_ GE542.out | refine below_set ?_ GE543.out | refine below_set ?_ GE544.out | refine below_set ?_ GE591.out | refine below_set ?_ GE597.out) | exact HB.out))))
            have n11_ := Aside0.mk (Kd.R_lower (Kd.R_new' (Kd.R_new' (Kd.R_new' (Kd.R_new' (Kd.R_new' (Kd.R_new' (Kd.R_new' (Kd.R_new' ho1 (Kd.R_lt (by (with_reducible repeat (first | apply Kd.R_alloc | apply Kd.R_drewN | apply Kd.R_drew)); exact HO555.out))) (Kd.R_lt (by (with_reducible repeat (first | apply Kd.R_alloc | apply Kd.R_drewN | apply Kd.R_drew)); exact HO558.out))) (Kd.R_lt (by (with_reducible repeat (first | apply Kd.R_alloc | apply Kd.R_drewN | apply Kd.R_drew)); exact HO563.out))) (Kd.R_lt (by (with_reducible repeat (first | apply Kd.R_alloc | apply Kd.R_drewN | apply Kd.R_drew)); exact HO566.out))) (Kd.R_lt (by (with_reducible repeat (first | apply Kd.R_alloc | apply Kd.R_drewN | apply Kd.R_drew)); exact HO578.out))) (Kd.R_lt (by (with_reducible repeat (first | apply Kd.R_alloc | apply Kd.R_drewN | apply Kd.R_drew)); exact HO581.out))) (Kd.R_lt (by (with_reducible repeat (first | apply Kd.R_alloc | apply Kd.R_drewN | apply Kd.R_drew)); exact HO586.out))) (Kd.R_lt (by (with_reducible repeat (first | apply Kd.R_alloc | apply Kd.R_drewN | apply Kd.R_drew)); exact HO589.out))) (below_size (by repeat (first | (with_reducible first | exact HB.out | apply below_alloc | apply pw_below_drewN | apply below_drew1 | refine below_set ?_ GE542.out | refine below_set ?_ GE543.out | refine below_set ?_ GE544.out | refine below_set ?_ GE591.out | refine below_set ?_ GE597.out) | exact HB.out))))
            have n12_ := Aside0.mk (Kd.R_lower (Kd.R_new' (Kd.R_new' (Kd.R_new' (Kd.R_new' (Kd.R_new' (Kd.R_new' (Kd.R_new' (Kd.R_new' ho2 (Kd.R_lt (by (with_reducible repeat (first | apply Kd.R_alloc | apply Kd.R_drewN | apply Kd.R_drew)); exact HO555.out))) (Kd.R_lt (by (with_reducible repeat (first | apply Kd.R_alloc | apply Kd.R_drewN | apply Kd.R_drew)); exact HO558.out))) (Kd.R_lt (by (with_reducible repeat (first | apply Kd.R_alloc | apply Kd.R_drewN | apply Kd.R_drew)); exact HO563.out))) (Kd.R_lt (by (with_reducible repeat (first | apply Kd.R_alloc | apply Kd.R_drewN | apply Kd.R_drew)); exact HO566.out))) (Kd.R_lt (by (with_reducible repeat (first | apply Kd.R_alloc | apply Kd.R_drewN | apply Kd.R_drew)); exact HO578.out))) (Kd.R_lt (by (with_reducible repeat (first | apply Kd.R_alloc | apply Kd.R_drewN | apply Kd.R_drew)); exact HO581.out))) (Kd.R_lt (by (with_reducible repeat (first | apply Kd.R_alloc | apply Kd.R_drewN | apply Kd.R_drew)); exact HO586.out))) (Kd.R_lt (by (with_reducible repeat (first | apply Kd.R_alloc | apply Kd.R_drewN | apply Kd.R_drew)); exact HO589.out))) (below_size (by repeat (first | (with_reducible first | exact HB.out | apply below_alloc | apply pw_below_drewN | apply below_drew1 | refine below_set ?_ GE542.out | refine below_set ?_ GE543.out | refine below_set ?_ GE544.out | refine below_set ?_ GE591.out | refine below_set ?_ GE597.out) | exact HB.out))))
            have n13_ := Aside0.mk (Kd.R_lower (Kd.R_new' (Kd.R_new' (Kd.R_new' (Kd.R_new' (Kd.R_new' (Kd.R_new' (Kd.R_new' (Kd.R_new' ho3 (Kd.R_lt (by (with_reducible repeat (first | apply Kd.R_alloc | apply Kd.R_drewN | apply Kd.R_drew)); exact HO555.out))) (Kd.R_lt (by (with_reducible repeat (first | apply Kd.R_alloc | apply Kd.R_drewN | apply Kd.R_drew)); exact HO558.out))) (Kd.R_lt (by (with_reducible repeat (first | apply Kd.R_alloc | apply Kd.R_drewN | apply Kd.R_drew)); exact HO563.out))) (Kd.R_lt (by (with_reducible repeat (first | apply Kd.R_alloc | apply Kd.R_drewN | apply Kd.R_drew)); exact HO566.out))) (Kd.R_lt (by (with_reducible repeat (first | apply Kd.R_alloc | apply Kd.R_drewN | apply Kd.R_drew)); exact HO578.out))) (Kd.R_lt (by (with_reducible repeat (first | apply Kd.R_alloc | apply Kd.R_drewN | apply Kd.R_drew)); exact HO581.out))) (Kd.R_lt (by (with_reducible repeat (first | apply Kd.R_alloc | apply Kd.R_drewN | apply Kd.R_drew)); exact HO586.out))) (Kd.R_lt (by (with_reducible repeat (first | apply Kd.R_alloc | apply Kd.R_drewN | apply Kd.R_drew)); exact HO589.out))) (below_size (by repeat (first | (with_reducible first | exact HB.out | apply below_alloc | apply pw_below_drewN | apply below_drew1 | refine below_set ?_ GE542.out | refine below_set ?_ GE543.out | refine below_set ?_ GE544.out | refine below_set ?_ GE591.out | refine below_set ?_ GE597.out) | exact HB.out))))
            have n14_ := Aside0.mk (blk_below (g := gb542) (o := .cells #[.int .i64 a0_0, .int .i64 a0_1, .int .i64 a0_2, .int .i64 a0_3] 43 (0, 0)) (by (with_reducible repeat (first | refine blk_drewN ?_ _ | refine blk_drew ?_ | refine blk_alloc ?_ _)); exact BK542.out) hb)
            have n15_ := Aside0.mk (blk_below (g := gb543) (o := .cells #[.int .i64 a1_0, .int .i64 a1_1, .slice A1_2 l1_2.length c1_2, .slice A1_3 l1_3.length c1_3, .int .i64 a1_4, .int .i64 a1_5, .slice A1_6 l1_6.length c1_6, .slice A1_7 l1_7.length c1_7, .int .i64 a1_8] 46 (0, 0)) (by (with_reducible repeat (first | refine blk_drewN ?_ _ | refine blk_drew ?_ | refine blk_alloc ?_ _)); exact BK543.out) hb)
            have n16_ := Aside0.mk (blk_below (g := gb544) (o := .cells #[.int .i64 a2_0, .int .i64 a2_1, .slice A2_2 l2_2.length c2_2] 49 (0, 0)) (by (with_reducible repeat (first | refine blk_drewN ?_ _ | refine blk_drew ?_ | refine blk_alloc ?_ _)); exact BK544.out) hb)
            have n17_ := Aside0.mk (blk_below (g := gb591) (o := .cells #[.int .i64 t574, .int .i64 t575, .slice Ao67 t576.length co67, .slice Ao68 t579.length co68, .int .i64 t582, .int .i64 t583, .slice Ao69 t584.length co69, .slice Ao70 t587.length co70, .int .i64 t590] 29 (0, 0)) (by (with_reducible repeat (first | refine blk_drewN ?_ _ | refine blk_drew ?_ | refine blk_alloc ?_ _)); exact BK591.out) hb)
            have n18_ := Aside0.mk (blk_below (g := gb597) (o := .cells #[.int .i64 t592, .int .i64 t593, .slice Ao79 t594.length co79] 33 (0, 0)) (by (with_reducible repeat (first | refine blk_drewN ?_ _ | refine blk_drew ?_ | refine blk_alloc ?_ _)); exact BK597.out) hb)
            have n19_ := Aside0.mk (below_step (by repeat (first | (with_reducible first | exact HB.out | apply below_alloc | apply pw_below_drewN | apply below_drew1 | refine below_set ?_ GE542.out | refine below_set ?_ GE543.out | refine below_set ?_ GE544.out | refine below_set ?_ GE591.out | refine below_set ?_ GE597.out) | exact HB.out)) hb)
            clear HO555
            clear HO558
            clear HO563
            clear HO566
            clear HO572
            clear HO578
            clear HO581
            clear HO586
            clear HO589
            clear HO596
            clear BK542
            clear BK543
            clear BK544
            clear BK591
            clear BK597
            clear HB
            have HO555 := n0_
            have HO558 := n1_
            have HO563 := n2_
            have HO566 := n3_
            have HO572 := n4_
            have HO578 := n5_
            have HO581 := n6_
            have HO586 := n7_
            have HO589 := n8_
            have HO596 := n9_
            have HO607 := n10_
            have HO610 := n11_
            have HO615 := n12_
            have HO618 := n13_
            have BK542 := n14_
            have BK543 := n15_
            have BK544 := n16_
            have BK591 := n17_
            have BK597 := n18_
            have HB := n19_
            clear n0_ n1_ n2_ n3_ n4_ n5_ n6_ n7_ n8_ n9_ n10_ n11_ n12_ n13_ n14_ n15_ n16_ n17_ n18_ n19_
            (try clear hb)
            (try clear hb2)
            (try clear hk)
            (try clear hi)
            (try clear ho0)
            (try clear ho1)
            (try clear ho2)
            (try clear ho3)
            obtain ⟨Ao86, co86, eo86⟩ := Kd.R_slice HO607.out
            (first | subst eo86 | (injection eo86 with f1_ f2_ f3_; have f4_ := f1_.symm; have f5_ := f3_.symm; clear f1_ f2_ f3_; subst f4_; subst f5_))
            obtain ⟨Ao87, co87, eo87⟩ := Kd.R_slice HO610.out
            (first | subst eo87 | (injection eo87 with f1_ f2_ f3_; have f4_ := f1_.symm; have f5_ := f3_.symm; clear f1_ f2_ f3_; subst f4_; subst f5_))
            obtain ⟨Ao88, co88, eo88⟩ := Kd.R_slice HO615.out
            (first | subst eo88 | (injection eo88 with f1_ f2_ f3_; have f4_ := f1_.symm; have f5_ := f3_.symm; clear f1_ f2_ f3_; subst f4_; subst f5_))
            obtain ⟨Ao89, co89, eo89⟩ := Kd.R_slice HO618.out
            (first | subst eo89 | (injection eo89 with f1_ f2_ f3_; have f4_ := f1_.symm; have f5_ := f3_.symm; clear f1_ f2_ f3_; subst f4_; subst f5_))
            refine hK.out _ _ ⟨(blk_cell BK591.out 0).trans rfl, (blk_cell BK591.out 1).trans rfl, (blk_cell BK591.out 2).trans rfl, (blk_cell BK591.out 3).trans rfl, (blk_cell BK591.out 4).trans rfl, (blk_cell BK591.out 5).trans rfl, (blk_cell BK591.out 6).trans rfl, (blk_cell BK591.out 7).trans rfl, (blk_cell BK591.out 8).trans rfl, (blk_cell BK543.out 0).trans rfl, (blk_cell BK543.out 1).trans rfl, (blk_cell BK543.out 2).trans rfl, (blk_cell BK543.out 3).trans rfl, (blk_cell BK543.out 4).trans rfl, (blk_cell BK543.out 5).trans rfl, (blk_cell BK543.out 6).trans rfl, (blk_cell BK543.out 7).trans rfl, (blk_cell BK543.out 8).trans rfl⟩ (fun hHeld => ?_)
            clear hK K
            refine norm_ (a' := ?_) ?_ ?_
            rotate_left
            · show Act.put _ (some 43) _ = _
              simp only [Act.put, List.setIfInBounds_toArray, List.set_cons_zero, List.set_cons_succ, i64_w, i32_w]
              rfl
            refine one_ (i := 3) (N := some 44) #[true, true, true, true, false] rfl rfl (by kernel_rfl) (by decide) (fun K hK => ?_)
            refine goes_ Try.func18 (by kernel_rfl) rfl #[.agg #[.int .i64 t574, .int .i64 t575, .slice Ao67 t576.length co67, .slice Ao68 t579.length co68, .int .i64 t582, .int .i64 t583, .slice Ao69 t584.length co69, .slice Ao70 t587.length co70, .int .i64 t590], .agg #[.int .i64 t603, .int .i64 t604, .slice Ao86 t605.length co86, .slice Ao87 t608.length co87, .int .i64 t611, .int .i64 t612, .slice Ao88 t613.length co88, .slice Ao89 t616.length co89, .int .i64 t619]] (by rfl) rfl rfl (by (try simp only [List.map_toArray, List.map_cons, List.map_nil]); first | done | rfl | (simp only [List.length_drop, List.length_take]; rfl)) ?_
            with_reducible refine (laws_eqBatch.calls t574 t575 _ _ t576 _ _ t579 t582 t583 _ _ t584 _ _ t587 t590 t603 t604 _ _ t605 _ _ t608 t611 t612 _ _ t613 _ _ t616 t619 true _ ?side1 ?side2 ?side3 ?side4 ?side5 ?side6 ?side7 ?side8 ?side9 ?side10 ?side11 ?side12 ?side13 ?side14 ?side15 ?side16 A35.out).mono ?_
            (case side1 => repeat (first | exact (Kd.R_reads' HO578.out).2.2 | (with_reducible refine Kd.C_alloc ?_ _) | (with_reducible refine Kd.C_drewN ?_ _) | (with_reducible refine Kd.C_drew ?_)))
            (case side2 => exact (Kd.R_reads' HO578.out).2.1)
            (case side3 => repeat (first | exact (Kd.R_reads' HO581.out).2.2 | (with_reducible refine Kd.C_alloc ?_ _) | (with_reducible refine Kd.C_drewN ?_ _) | (with_reducible refine Kd.C_drew ?_)))
            (case side4 => exact (Kd.R_reads' HO581.out).2.1)
            (case side5 => repeat (first | exact (Kd.R_reads' HO586.out).2.2 | (with_reducible refine Kd.C_alloc ?_ _) | (with_reducible refine Kd.C_drewN ?_ _) | (with_reducible refine Kd.C_drew ?_)))
            (case side6 => exact (Kd.R_reads' HO586.out).2.1)
            (case side7 => repeat (first | exact (Kd.R_reads' HO589.out).2.2 | (with_reducible refine Kd.C_alloc ?_ _) | (with_reducible refine Kd.C_drewN ?_ _) | (with_reducible refine Kd.C_drew ?_)))
            (case side8 => exact (Kd.R_reads' HO589.out).2.1)
            (case side9 => repeat (first | exact (Kd.R_reads' HO607.out).2.2 | (with_reducible refine Kd.C_alloc ?_ _) | (with_reducible refine Kd.C_drewN ?_ _) | (with_reducible refine Kd.C_drew ?_)))
            (case side10 => exact (Kd.R_reads' HO607.out).2.1)
            (case side11 => repeat (first | exact (Kd.R_reads' HO610.out).2.2 | (with_reducible refine Kd.C_alloc ?_ _) | (with_reducible refine Kd.C_drewN ?_ _) | (with_reducible refine Kd.C_drew ?_)))
            (case side12 => exact (Kd.R_reads' HO610.out).2.1)
            (case side13 => repeat (first | exact (Kd.R_reads' HO615.out).2.2 | (with_reducible refine Kd.C_alloc ?_ _) | (with_reducible refine Kd.C_drewN ?_ _) | (with_reducible refine Kd.C_drew ?_)))
            (case side14 => exact (Kd.R_reads' HO615.out).2.1)
            (case side15 => repeat (first | exact (Kd.R_reads' HO618.out).2.2 | (with_reducible refine Kd.C_alloc ?_ _) | (with_reducible refine Kd.C_drewN ?_ _) | (with_reducible refine Kd.C_drew ?_)))
            (case side16 => exact (Kd.R_reads' HO618.out).2.1)
            rintro e w90 ⟨rfl, hb⟩
            refine ⟨_, rfl, ?_⟩
            have n0_ := Aside0.mk (Kd.R_below (by (with_reducible repeat (first | apply Kd.R_alloc | apply Kd.R_drewN | apply Kd.R_drew)); exact HO555.out) hb)
            have n1_ := Aside0.mk (Kd.R_below (by (with_reducible repeat (first | apply Kd.R_alloc | apply Kd.R_drewN | apply Kd.R_drew)); exact HO558.out) hb)
            have n2_ := Aside0.mk (Kd.R_below (by (with_reducible repeat (first | apply Kd.R_alloc | apply Kd.R_drewN | apply Kd.R_drew)); exact HO563.out) hb)
            have n3_ := Aside0.mk (Kd.R_below (by (with_reducible repeat (first | apply Kd.R_alloc | apply Kd.R_drewN | apply Kd.R_drew)); exact HO566.out) hb)
            have n4_ := Aside0.mk (Kd.R_below (by (with_reducible repeat (first | apply Kd.R_alloc | apply Kd.R_drewN | apply Kd.R_drew)); exact HO572.out) hb)
            have n5_ := Aside0.mk (Kd.R_below (by (with_reducible repeat (first | apply Kd.R_alloc | apply Kd.R_drewN | apply Kd.R_drew)); exact HO578.out) hb)
            have n6_ := Aside0.mk (Kd.R_below (by (with_reducible repeat (first | apply Kd.R_alloc | apply Kd.R_drewN | apply Kd.R_drew)); exact HO581.out) hb)
            have n7_ := Aside0.mk (Kd.R_below (by (with_reducible repeat (first | apply Kd.R_alloc | apply Kd.R_drewN | apply Kd.R_drew)); exact HO586.out) hb)
            have n8_ := Aside0.mk (Kd.R_below (by (with_reducible repeat (first | apply Kd.R_alloc | apply Kd.R_drewN | apply Kd.R_drew)); exact HO589.out) hb)
            have n9_ := Aside0.mk (Kd.R_below (by (with_reducible repeat (first | apply Kd.R_alloc | apply Kd.R_drewN | apply Kd.R_drew)); exact HO596.out) hb)
            have n10_ := Aside0.mk (Kd.R_below (by (with_reducible repeat (first | apply Kd.R_alloc | apply Kd.R_drewN | apply Kd.R_drew)); exact HO607.out) hb)
            have n11_ := Aside0.mk (Kd.R_below (by (with_reducible repeat (first | apply Kd.R_alloc | apply Kd.R_drewN | apply Kd.R_drew)); exact HO610.out) hb)
            have n12_ := Aside0.mk (Kd.R_below (by (with_reducible repeat (first | apply Kd.R_alloc | apply Kd.R_drewN | apply Kd.R_drew)); exact HO615.out) hb)
            have n13_ := Aside0.mk (Kd.R_below (by (with_reducible repeat (first | apply Kd.R_alloc | apply Kd.R_drewN | apply Kd.R_drew)); exact HO618.out) hb)
            have n14_ := Aside0.mk (blk_below (g := gb542) (o := .cells #[.int .i64 a0_0, .int .i64 a0_1, .int .i64 a0_2, .int .i64 a0_3] 43 (0, 0)) (by (with_reducible repeat (first | refine blk_drewN ?_ _ | refine blk_drew ?_ | refine blk_alloc ?_ _)); exact BK542.out) hb)
            have n15_ := Aside0.mk (blk_below (g := gb543) (o := .cells #[.int .i64 a1_0, .int .i64 a1_1, .slice A1_2 l1_2.length c1_2, .slice A1_3 l1_3.length c1_3, .int .i64 a1_4, .int .i64 a1_5, .slice A1_6 l1_6.length c1_6, .slice A1_7 l1_7.length c1_7, .int .i64 a1_8] 46 (0, 0)) (by (with_reducible repeat (first | refine blk_drewN ?_ _ | refine blk_drew ?_ | refine blk_alloc ?_ _)); exact BK543.out) hb)
            have n16_ := Aside0.mk (blk_below (g := gb544) (o := .cells #[.int .i64 a2_0, .int .i64 a2_1, .slice A2_2 l2_2.length c2_2] 49 (0, 0)) (by (with_reducible repeat (first | refine blk_drewN ?_ _ | refine blk_drew ?_ | refine blk_alloc ?_ _)); exact BK544.out) hb)
            have n17_ := Aside0.mk (blk_below (g := gb591) (o := .cells #[.int .i64 t574, .int .i64 t575, .slice Ao67 t576.length co67, .slice Ao68 t579.length co68, .int .i64 t582, .int .i64 t583, .slice Ao69 t584.length co69, .slice Ao70 t587.length co70, .int .i64 t590] 29 (0, 0)) (by (with_reducible repeat (first | refine blk_drewN ?_ _ | refine blk_drew ?_ | refine blk_alloc ?_ _)); exact BK591.out) hb)
            have n18_ := Aside0.mk (blk_below (g := gb597) (o := .cells #[.int .i64 t592, .int .i64 t593, .slice Ao79 t594.length co79] 33 (0, 0)) (by (with_reducible repeat (first | refine blk_drewN ?_ _ | refine blk_drew ?_ | refine blk_alloc ?_ _)); exact BK597.out) hb)
            have n19_ := Aside0.mk (below_step (by repeat (first | (with_reducible first | exact HB.out | apply below_alloc | apply pw_below_drewN | apply below_drew1 | refine below_set ?_ GE542.out | refine below_set ?_ GE543.out | refine below_set ?_ GE544.out | refine below_set ?_ GE591.out | refine below_set ?_ GE597.out) | exact HB.out)) hb)
            clear HO555
            clear HO558
            clear HO563
            clear HO566
            clear HO572
            clear HO578
            clear HO581
            clear HO586
            clear HO589
            clear HO596
            clear HO607
            clear HO610
            clear HO615
            clear HO618
            clear BK542
            clear BK543
            clear BK544
            clear BK591
            clear BK597
            clear HB
            have HO555 := n0_
            have HO558 := n1_
            have HO563 := n2_
            have HO566 := n3_
            have HO572 := n4_
            have HO578 := n5_
            have HO581 := n6_
            have HO586 := n7_
            have HO589 := n8_
            have HO596 := n9_
            have HO607 := n10_
            have HO610 := n11_
            have HO615 := n12_
            have HO618 := n13_
            have BK542 := n14_
            have BK543 := n15_
            have BK544 := n16_
            have BK591 := n17_
            have BK597 := n18_
            have HB := n19_
            clear n0_ n1_ n2_ n3_ n4_ n5_ n6_ n7_ n8_ n9_ n10_ n11_ n12_ n13_ n14_ n15_ n16_ n17_ n18_ n19_
            (try clear hb)
            (try clear hb2)
            (try clear hk)
            (try clear hi)
            refine hK.out _ _ ⟨(blk_cell BK591.out 0).trans rfl, (blk_cell BK591.out 1).trans rfl, (blk_cell BK591.out 2).trans rfl, (blk_cell BK591.out 3).trans rfl, (blk_cell BK591.out 4).trans rfl, (blk_cell BK591.out 5).trans rfl, (blk_cell BK591.out 6).trans rfl, (blk_cell BK591.out 7).trans rfl, (blk_cell BK591.out 8).trans rfl, (blk_cell BK543.out 0).trans rfl, (blk_cell BK543.out 1).trans rfl, (blk_cell BK543.out 2).trans rfl, (blk_cell BK543.out 3).trans rfl, (blk_cell BK543.out 4).trans rfl, (blk_cell BK543.out 5).trans rfl, (blk_cell BK543.out 6).trans rfl, (blk_cell BK543.out 7).trans rfl, (blk_cell BK543.out 8).trans rfl⟩ (fun hHeld => ?_)
            clear hK K
            refine norm_ (a' := ?_) ?_ ?_
            rotate_left
            · show Act.put _ (some 44) _ = _
              simp only [Act.put, List.setIfInBounds_toArray, List.set_cons_zero, List.set_cons_succ, i64_w, i32_w]
              rfl
            refine pure_ (i := 4) (N := some 45) (v := ?_) (a' := ?_) #[true, true, true, true, true] rfl rfl (by kernel_rfl) (fun _ _ _ h => h) (Or.inl ⟨by rfl, ?_⟩) ?_ ?_
            rotate_left
            · intro w'
              go_simp
              with_reducible rfl
            rotate_left
            · simp only [Act.put, List.setIfInBounds_toArray, List.set_cons_zero, List.set_cons_succ, i64_w, i32_w]
              rfl
            refine done_ (by kernel_rfl) ?_
            try go_wp2
            have n0_ := Aside0.mk (Kd.R_drew HO555.out)
            have n1_ := Aside0.mk (Kd.R_drew HO558.out)
            have n2_ := Aside0.mk (Kd.R_drew HO563.out)
            have n3_ := Aside0.mk (Kd.R_drew HO566.out)
            have n4_ := Aside0.mk (Kd.R_drew HO572.out)
            have n5_ := Aside0.mk (Kd.R_drew HO578.out)
            have n6_ := Aside0.mk (Kd.R_drew HO581.out)
            have n7_ := Aside0.mk (Kd.R_drew HO586.out)
            have n8_ := Aside0.mk (Kd.R_drew HO589.out)
            have n9_ := Aside0.mk (Kd.R_drew HO596.out)
            have n10_ := Aside0.mk (Kd.R_drew HO607.out)
            have n11_ := Aside0.mk (Kd.R_drew HO610.out)
            have n12_ := Aside0.mk (Kd.R_drew HO615.out)
            have n13_ := Aside0.mk (Kd.R_drew HO618.out)
            have n14_ := Aside0.mk (blk_drew BK542.out)
            have n15_ := Aside0.mk (blk_drew BK543.out)
            have n16_ := Aside0.mk (blk_drew BK544.out)
            have n17_ := Aside0.mk (blk_drew BK591.out)
            have n18_ := Aside0.mk (blk_drew BK597.out)
            have n19_ := Aside0.mk (below_drew1 HB.out)
            clear HO555
            clear HO558
            clear HO563
            clear HO566
            clear HO572
            clear HO578
            clear HO581
            clear HO586
            clear HO589
            clear HO596
            clear HO607
            clear HO610
            clear HO615
            clear HO618
            clear BK542
            clear BK543
            clear BK544
            clear BK591
            clear BK597
            clear HB
            have HO555 := n0_
            have HO558 := n1_
            have HO563 := n2_
            have HO566 := n3_
            have HO572 := n4_
            have HO578 := n5_
            have HO581 := n6_
            have HO586 := n7_
            have HO589 := n8_
            have HO596 := n9_
            have HO607 := n10_
            have HO610 := n11_
            have HO615 := n12_
            have HO618 := n13_
            have BK542 := n14_
            have BK543 := n15_
            have BK544 := n16_
            have BK591 := n17_
            have BK597 := n18_
            have HB := n19_
            clear n0_ n1_ n2_ n3_ n4_ n5_ n6_ n7_ n8_ n9_ n10_ n11_ n12_ n13_ n14_ n15_ n16_ n17_ n18_ n19_
            refine start_ (n := 5) (S := fun w' => w'.cell? ⟨gb597, 0, none⟩ = some (.int .i64 t592) ∧ w'.cell? ⟨gb597, 1, none⟩ = some (.int .i64 t593) ∧ w'.cell? ⟨gb597, 2, none⟩ = some (.slice Ao79 t594.length co79) ∧ w'.cell? ⟨gb544, 0, none⟩ = some (.int .i64 a2_0) ∧ w'.cell? ⟨gb544, 1, none⟩ = some (.int .i64 a2_1) ∧ w'.cell? ⟨gb544, 2, none⟩ = some (.slice A2_2 l2_2.length c2_2)) (ds := []) #[false, false, false, false, false] (by kernel_rfl) rfl rfl ⟨(blk_cell BK597.out 0).trans rfl, (blk_cell BK597.out 1).trans rfl, (blk_cell BK597.out 2).trans rfl, (blk_cell BK544.out 0).trans rfl, (blk_cell BK544.out 1).trans rfl, (blk_cell BK544.out 2).trans rfl⟩ (fun hHeld => ?_)
            generalize w90.drew = w91 at HO555 HO558 HO563 HO566 HO572 HO578 HO581 HO586 HO589 HO596 HO607 HO610 HO615 HO618 BK542 BK543 BK544 BK591 BK597 HB hHeld ⊢
            refine take_ (i := 0) (N := some 46) (v := ?_) (a' := ?_) #[true, false, false, false, false] rfl rfl (by kernel_rfl) (fun _ _ _ h => h) (Or.inl ⟨by rfl, ?_⟩) hHeld ?_ ?_
            rotate_left
            · rintro w' ⟨s0, s1, s2, s3, s4, s5⟩
              go_simp
              with_reducible rfl
            rotate_left
            · simp only [Act.put, List.setIfInBounds_toArray, List.set_cons_zero, List.set_cons_succ, i64_w, i32_w]
              rfl
            refine take_ (i := 1) (N := some 47) (v := ?_) (a' := ?_) #[true, true, false, false, false] rfl rfl (by kernel_rfl) (fun _ _ _ h => h) (Or.inl ⟨by rfl, ?_⟩) hHeld ?_ ?_
            rotate_left
            · rintro w' ⟨s0, s1, s2, s3, s4, s5⟩
              go_simp
              with_reducible rfl
            rotate_left
            · simp only [Act.put, List.setIfInBounds_toArray, List.set_cons_zero, List.set_cons_succ, i64_w, i32_w]
              rfl
            refine one_ (i := 2) (N := some 48) #[true, true, true, false, false] rfl rfl (by kernel_rfl) (by decide) (fun K hK => ?_)
            refine goes_ Try.func16 (by kernel_rfl) rfl #[.agg #[.int .i64 a2_0, .int .i64 a2_1, .slice A2_2 l2_2.length c2_2]] (by rfl) rfl rfl (by (try simp only [List.map_toArray, List.map_cons, List.map_nil]); first | done | rfl | (simp only [List.length_drop, List.length_take]; rfl)) ?_
            with_reducible refine (laws_toLedger.calls a2_0 a2_1 _ _ l2_2 t621 t622 t623 _ ?side1 ?side2 A37.out).mono ?_
            (case side1 => repeat (first | exact (Kd.C_below HR2_2.out HB.out) | (with_reducible refine Kd.C_alloc ?_ _) | (with_reducible refine Kd.C_drewN ?_ _) | (with_reducible refine Kd.C_drew ?_)))
            (case side2 => exact HC2_2.out)
            rintro e w92 ⟨v624, rfl, ho0, hb⟩
            refine ⟨_, rfl, ?_⟩
            have n0_ := Aside0.mk (Kd.R_below (by (with_reducible repeat (first | apply Kd.R_alloc | apply Kd.R_drewN | apply Kd.R_drew)); exact HO555.out) hb)
            have n1_ := Aside0.mk (Kd.R_below (by (with_reducible repeat (first | apply Kd.R_alloc | apply Kd.R_drewN | apply Kd.R_drew)); exact HO558.out) hb)
            have n2_ := Aside0.mk (Kd.R_below (by (with_reducible repeat (first | apply Kd.R_alloc | apply Kd.R_drewN | apply Kd.R_drew)); exact HO563.out) hb)
            have n3_ := Aside0.mk (Kd.R_below (by (with_reducible repeat (first | apply Kd.R_alloc | apply Kd.R_drewN | apply Kd.R_drew)); exact HO566.out) hb)
            have n4_ := Aside0.mk (Kd.R_elder' (by (with_reducible repeat (first | apply Kd.R_alloc | apply Kd.R_drewN | apply Kd.R_drew)); exact HO572.out) (Kd.R_base ho0) hb)
            have n5_ := Aside0.mk (Kd.R_below (by (with_reducible repeat (first | apply Kd.R_alloc | apply Kd.R_drewN | apply Kd.R_drew)); exact HO578.out) hb)
            have n6_ := Aside0.mk (Kd.R_below (by (with_reducible repeat (first | apply Kd.R_alloc | apply Kd.R_drewN | apply Kd.R_drew)); exact HO581.out) hb)
            have n7_ := Aside0.mk (Kd.R_below (by (with_reducible repeat (first | apply Kd.R_alloc | apply Kd.R_drewN | apply Kd.R_drew)); exact HO586.out) hb)
            have n8_ := Aside0.mk (Kd.R_below (by (with_reducible repeat (first | apply Kd.R_alloc | apply Kd.R_drewN | apply Kd.R_drew)); exact HO589.out) hb)
            have n9_ := Aside0.mk (Kd.R_elder' (by (with_reducible repeat (first | apply Kd.R_alloc | apply Kd.R_drewN | apply Kd.R_drew)); exact HO596.out) (Kd.R_base ho0) hb)
            have n10_ := Aside0.mk (Kd.R_below (by (with_reducible repeat (first | apply Kd.R_alloc | apply Kd.R_drewN | apply Kd.R_drew)); exact HO607.out) hb)
            have n11_ := Aside0.mk (Kd.R_below (by (with_reducible repeat (first | apply Kd.R_alloc | apply Kd.R_drewN | apply Kd.R_drew)); exact HO610.out) hb)
            have n12_ := Aside0.mk (Kd.R_below (by (with_reducible repeat (first | apply Kd.R_alloc | apply Kd.R_drewN | apply Kd.R_drew)); exact HO615.out) hb)
            have n13_ := Aside0.mk (Kd.R_below (by (with_reducible repeat (first | apply Kd.R_alloc | apply Kd.R_drewN | apply Kd.R_drew)); exact HO618.out) hb)
            have n14_ := Aside0.mk (Kd.R_lower (Kd.R_new' (Kd.R_new' ho0 (Kd.R_lt (by (with_reducible repeat (first | apply Kd.R_alloc | apply Kd.R_drewN | apply Kd.R_drew)); exact HO572.out))) (Kd.R_lt (by (with_reducible repeat (first | apply Kd.R_alloc | apply Kd.R_drewN | apply Kd.R_drew)); exact HO596.out))) (below_size (by repeat (first | (with_reducible first | exact HB.out | apply below_alloc | apply pw_below_drewN | apply below_drew1 | refine below_set ?_ GE542.out | refine below_set ?_ GE543.out | refine below_set ?_ GE544.out | refine below_set ?_ GE591.out | refine below_set ?_ GE597.out) | exact HB.out))))
            have n15_ := Aside0.mk (blk_below (g := gb542) (o := .cells #[.int .i64 a0_0, .int .i64 a0_1, .int .i64 a0_2, .int .i64 a0_3] 43 (0, 0)) (by (with_reducible repeat (first | refine blk_drewN ?_ _ | refine blk_drew ?_ | refine blk_alloc ?_ _)); exact BK542.out) hb)
            have n16_ := Aside0.mk (blk_below (g := gb543) (o := .cells #[.int .i64 a1_0, .int .i64 a1_1, .slice A1_2 l1_2.length c1_2, .slice A1_3 l1_3.length c1_3, .int .i64 a1_4, .int .i64 a1_5, .slice A1_6 l1_6.length c1_6, .slice A1_7 l1_7.length c1_7, .int .i64 a1_8] 46 (0, 0)) (by (with_reducible repeat (first | refine blk_drewN ?_ _ | refine blk_drew ?_ | refine blk_alloc ?_ _)); exact BK543.out) hb)
            have n17_ := Aside0.mk (blk_below (g := gb544) (o := .cells #[.int .i64 a2_0, .int .i64 a2_1, .slice A2_2 l2_2.length c2_2] 49 (0, 0)) (by (with_reducible repeat (first | refine blk_drewN ?_ _ | refine blk_drew ?_ | refine blk_alloc ?_ _)); exact BK544.out) hb)
            have n18_ := Aside0.mk (blk_below (g := gb591) (o := .cells #[.int .i64 t574, .int .i64 t575, .slice Ao67 t576.length co67, .slice Ao68 t579.length co68, .int .i64 t582, .int .i64 t583, .slice Ao69 t584.length co69, .slice Ao70 t587.length co70, .int .i64 t590] 29 (0, 0)) (by (with_reducible repeat (first | refine blk_drewN ?_ _ | refine blk_drew ?_ | refine blk_alloc ?_ _)); exact BK591.out) hb)
            have n19_ := Aside0.mk (blk_below (g := gb597) (o := .cells #[.int .i64 t592, .int .i64 t593, .slice Ao79 t594.length co79] 33 (0, 0)) (by (with_reducible repeat (first | refine blk_drewN ?_ _ | refine blk_drew ?_ | refine blk_alloc ?_ _)); exact BK597.out) hb)
            have n20_ := Aside0.mk (below_step (by repeat (first | (with_reducible first | exact HB.out | apply below_alloc | apply pw_below_drewN | apply below_drew1 | refine below_set ?_ GE542.out | refine below_set ?_ GE543.out | refine below_set ?_ GE544.out | refine below_set ?_ GE591.out | refine below_set ?_ GE597.out) | exact HB.out)) hb)
            clear HO555
            clear HO558
            clear HO563
            clear HO566
            clear HO572
            clear HO578
            clear HO581
            clear HO586
            clear HO589
            clear HO596
            clear HO607
            clear HO610
            clear HO615
            clear HO618
            clear BK542
            clear BK543
            clear BK544
            clear BK591
            clear BK597
            clear HB
            have HO555 := n0_
            have HO558 := n1_
            have HO563 := n2_
            have HO566 := n3_
            have HO572 := n4_
            have HO578 := n5_
            have HO581 := n6_
            have HO586 := n7_
            have HO589 := n8_
            have HO596 := n9_
            have HO607 := n10_
            have HO610 := n11_
            have HO615 := n12_
            have HO618 := n13_
            have HO625 := n14_
            have BK542 := n15_
            have BK543 := n16_
            have BK544 := n17_
            have BK591 := n18_
            have BK597 := n19_
            have HB := n20_
            clear n0_ n1_ n2_ n3_ n4_ n5_ n6_ n7_ n8_ n9_ n10_ n11_ n12_ n13_ n14_ n15_ n16_ n17_ n18_ n19_ n20_
            (try clear hb)
            (try clear hb2)
            (try clear hk)
            (try clear hi)
            (try clear ho0)
            obtain ⟨Ao93, co93, eo93⟩ := Kd.R_slice HO625.out
            (first | subst eo93 | (injection eo93 with f1_ f2_ f3_; have f4_ := f1_.symm; have f5_ := f3_.symm; clear f1_ f2_ f3_; subst f4_; subst f5_))
            refine hK.out _ _ ⟨(blk_cell BK597.out 0).trans rfl, (blk_cell BK597.out 1).trans rfl, (blk_cell BK597.out 2).trans rfl, (blk_cell BK544.out 0).trans rfl, (blk_cell BK544.out 1).trans rfl, (blk_cell BK544.out 2).trans rfl⟩ (fun hHeld => ?_)
            clear hK K
            refine norm_ (a' := ?_) ?_ ?_
            rotate_left
            · show Act.put _ (some 48) _ = _
              simp only [Act.put, List.setIfInBounds_toArray, List.set_cons_zero, List.set_cons_succ, i64_w, i32_w]
              rfl
            refine one_ (i := 3) (N := some 49) #[true, true, true, true, false] rfl rfl (by kernel_rfl) (by decide) (fun K hK => ?_)
            refine goes_ Try.func19 (by kernel_rfl) rfl #[.agg #[.int .i64 t592, .int .i64 t593, .slice Ao79 t594.length co79], .agg #[.int .i64 t621, .int .i64 t622, .slice Ao93 t623.length co93]] (by rfl) rfl rfl (by (try simp only [List.map_toArray, List.map_cons, List.map_nil]); first | done | rfl | (simp only [List.length_drop, List.length_take]; rfl)) ?_
            with_reducible refine (laws_eqLedger.calls t592 t593 _ _ t594 t621 t622 _ _ t623 true _ ?side1 ?side2 ?side3 ?side4 A38.out).mono ?_
            (case side1 => repeat (first | exact (Kd.R_reads' HO596.out).2.2 | (with_reducible refine Kd.C_alloc ?_ _) | (with_reducible refine Kd.C_drewN ?_ _) | (with_reducible refine Kd.C_drew ?_)))
            (case side2 => exact (Kd.R_reads' HO596.out).2.1)
            (case side3 => repeat (first | exact (Kd.R_reads' HO625.out).2.2 | (with_reducible refine Kd.C_alloc ?_ _) | (with_reducible refine Kd.C_drewN ?_ _) | (with_reducible refine Kd.C_drew ?_)))
            (case side4 => exact (Kd.R_reads' HO625.out).2.1)
            rintro e w94 ⟨rfl, hb⟩
            refine ⟨_, rfl, ?_⟩
            have n0_ := Aside0.mk (Kd.R_below (by (with_reducible repeat (first | apply Kd.R_alloc | apply Kd.R_drewN | apply Kd.R_drew)); exact HO555.out) hb)
            have n1_ := Aside0.mk (Kd.R_below (by (with_reducible repeat (first | apply Kd.R_alloc | apply Kd.R_drewN | apply Kd.R_drew)); exact HO558.out) hb)
            have n2_ := Aside0.mk (Kd.R_below (by (with_reducible repeat (first | apply Kd.R_alloc | apply Kd.R_drewN | apply Kd.R_drew)); exact HO563.out) hb)
            have n3_ := Aside0.mk (Kd.R_below (by (with_reducible repeat (first | apply Kd.R_alloc | apply Kd.R_drewN | apply Kd.R_drew)); exact HO566.out) hb)
            have n4_ := Aside0.mk (Kd.R_below (by (with_reducible repeat (first | apply Kd.R_alloc | apply Kd.R_drewN | apply Kd.R_drew)); exact HO572.out) hb)
            have n5_ := Aside0.mk (Kd.R_below (by (with_reducible repeat (first | apply Kd.R_alloc | apply Kd.R_drewN | apply Kd.R_drew)); exact HO578.out) hb)
            have n6_ := Aside0.mk (Kd.R_below (by (with_reducible repeat (first | apply Kd.R_alloc | apply Kd.R_drewN | apply Kd.R_drew)); exact HO581.out) hb)
            have n7_ := Aside0.mk (Kd.R_below (by (with_reducible repeat (first | apply Kd.R_alloc | apply Kd.R_drewN | apply Kd.R_drew)); exact HO586.out) hb)
            have n8_ := Aside0.mk (Kd.R_below (by (with_reducible repeat (first | apply Kd.R_alloc | apply Kd.R_drewN | apply Kd.R_drew)); exact HO589.out) hb)
            have n9_ := Aside0.mk (Kd.R_below (by (with_reducible repeat (first | apply Kd.R_alloc | apply Kd.R_drewN | apply Kd.R_drew)); exact HO596.out) hb)
            have n10_ := Aside0.mk (Kd.R_below (by (with_reducible repeat (first | apply Kd.R_alloc | apply Kd.R_drewN | apply Kd.R_drew)); exact HO607.out) hb)
            have n11_ := Aside0.mk (Kd.R_below (by (with_reducible repeat (first | apply Kd.R_alloc | apply Kd.R_drewN | apply Kd.R_drew)); exact HO610.out) hb)
            have n12_ := Aside0.mk (Kd.R_below (by (with_reducible repeat (first | apply Kd.R_alloc | apply Kd.R_drewN | apply Kd.R_drew)); exact HO615.out) hb)
            have n13_ := Aside0.mk (Kd.R_below (by (with_reducible repeat (first | apply Kd.R_alloc | apply Kd.R_drewN | apply Kd.R_drew)); exact HO618.out) hb)
            have n14_ := Aside0.mk (Kd.R_below (by (with_reducible repeat (first | apply Kd.R_alloc | apply Kd.R_drewN | apply Kd.R_drew)); exact HO625.out) hb)
            have n15_ := Aside0.mk (blk_below (g := gb542) (o := .cells #[.int .i64 a0_0, .int .i64 a0_1, .int .i64 a0_2, .int .i64 a0_3] 43 (0, 0)) (by (with_reducible repeat (first | refine blk_drewN ?_ _ | refine blk_drew ?_ | refine blk_alloc ?_ _)); exact BK542.out) hb)
            have n16_ := Aside0.mk (blk_below (g := gb543) (o := .cells #[.int .i64 a1_0, .int .i64 a1_1, .slice A1_2 l1_2.length c1_2, .slice A1_3 l1_3.length c1_3, .int .i64 a1_4, .int .i64 a1_5, .slice A1_6 l1_6.length c1_6, .slice A1_7 l1_7.length c1_7, .int .i64 a1_8] 46 (0, 0)) (by (with_reducible repeat (first | refine blk_drewN ?_ _ | refine blk_drew ?_ | refine blk_alloc ?_ _)); exact BK543.out) hb)
            have n17_ := Aside0.mk (blk_below (g := gb544) (o := .cells #[.int .i64 a2_0, .int .i64 a2_1, .slice A2_2 l2_2.length c2_2] 49 (0, 0)) (by (with_reducible repeat (first | refine blk_drewN ?_ _ | refine blk_drew ?_ | refine blk_alloc ?_ _)); exact BK544.out) hb)
            have n18_ := Aside0.mk (blk_below (g := gb591) (o := .cells #[.int .i64 t574, .int .i64 t575, .slice Ao67 t576.length co67, .slice Ao68 t579.length co68, .int .i64 t582, .int .i64 t583, .slice Ao69 t584.length co69, .slice Ao70 t587.length co70, .int .i64 t590] 29 (0, 0)) (by (with_reducible repeat (first | refine blk_drewN ?_ _ | refine blk_drew ?_ | refine blk_alloc ?_ _)); exact BK591.out) hb)
            have n19_ := Aside0.mk (blk_below (g := gb597) (o := .cells #[.int .i64 t592, .int .i64 t593, .slice Ao79 t594.length co79] 33 (0, 0)) (by (with_reducible repeat (first | refine blk_drewN ?_ _ | refine blk_drew ?_ | refine blk_alloc ?_ _)); exact BK597.out) hb)
            have n20_ := Aside0.mk (below_step (by repeat (first | (with_reducible first | exact HB.out | apply below_alloc | apply pw_below_drewN | apply below_drew1 | refine below_set ?_ GE542.out | refine below_set ?_ GE543.out | refine below_set ?_ GE544.out | refine below_set ?_ GE591.out | refine below_set ?_ GE597.out) | exact HB.out)) hb)
            clear HO555
            clear HO558
            clear HO563
            clear HO566
            clear HO572
            clear HO578
            clear HO581
            clear HO586
            clear HO589
            clear HO596
            clear HO607
            clear HO610
            clear HO615
            clear HO618
            clear HO625
            clear BK542
            clear BK543
            clear BK544
            clear BK591
            clear BK597
            clear HB
            have HO555 := n0_
            have HO558 := n1_
            have HO563 := n2_
            have HO566 := n3_
            have HO572 := n4_
            have HO578 := n5_
            have HO581 := n6_
            have HO586 := n7_
            have HO589 := n8_
            have HO596 := n9_
            have HO607 := n10_
            have HO610 := n11_
            have HO615 := n12_
            have HO618 := n13_
            have HO625 := n14_
            have BK542 := n15_
            have BK543 := n16_
            have BK544 := n17_
            have BK591 := n18_
            have BK597 := n19_
            have HB := n20_
            clear n0_ n1_ n2_ n3_ n4_ n5_ n6_ n7_ n8_ n9_ n10_ n11_ n12_ n13_ n14_ n15_ n16_ n17_ n18_ n19_ n20_
            (try clear hb)
            (try clear hb2)
            (try clear hk)
            (try clear hi)
            refine hK.out _ _ ⟨(blk_cell BK597.out 0).trans rfl, (blk_cell BK597.out 1).trans rfl, (blk_cell BK597.out 2).trans rfl, (blk_cell BK544.out 0).trans rfl, (blk_cell BK544.out 1).trans rfl, (blk_cell BK544.out 2).trans rfl⟩ (fun hHeld => ?_)
            clear hK K
            refine norm_ (a' := ?_) ?_ ?_
            rotate_left
            · show Act.put _ (some 49) _ = _
              simp only [Act.put, List.setIfInBounds_toArray, List.set_cons_zero, List.set_cons_succ, i64_w, i32_w]
              rfl
            refine pure_ (i := 4) (N := some 50) (v := ?_) (a' := ?_) #[true, true, true, true, true] rfl rfl (by kernel_rfl) (fun _ _ _ h => h) (Or.inl ⟨by rfl, ?_⟩) ?_ ?_
            rotate_left
            · intro w'
              go_simp
              with_reducible rfl
            rotate_left
            · simp only [Act.put, List.setIfInBounds_toArray, List.set_cons_zero, List.set_cons_succ, i64_w, i32_w]
              rfl
            refine done_ (by kernel_rfl) ?_
            try go_wp2
            go_ret
            exact ⟨by first | rfl | (simp [errW_none, errW_some] <;> rfl) | (simp [*, errW_none, errW_some] <;> rfl), by repeat (first | (with_reducible first | exact HB.out | apply below_alloc | apply pw_below_drewN | apply below_drew1 | refine below_set ?_ GE542.out | refine below_set ?_ GE543.out | refine below_set ?_ GE544.out | refine below_set ?_ GE591.out | refine below_set ?_ GE597.out) | exact HB.out)⟩
          · replace c39 := Bool.eq_false_iff.mpr c39
            subst c39
            have H1 : (none) = some r := by rw [if_neg (show ¬ (false = true) by decide)] at H; exact H
            clear H
            have H := H1
            clear H1
            exact absurd H (by simp)
        · replace c36 := Bool.eq_false_iff.mpr c36
          subst c36
          have H1 : (none) = some r := by rw [if_neg (show ¬ (false = true) by decide)] at H; exact H
          clear H
          have H := H1
          clear H1
          exact absurd H (by simp)
end Go.Proofs.Ytnffoddeppimkaa.P
namespace Go.Proofs.Ytnffoddeppimkaa
open Go.RowKit Go.Proofs.YtnffoddeppimkaaW.PrintWords
def FnExactAskMayPure : Prop := ∀ (a0_0 : Int) (a0_1 : Int) (a0_2_0 : Int) (a0_2_1 : Int) (a1_0_0 : Int) (a1_0_1 : Int) (l1_0_2 : (List Int)) (l1_0_3 : (List Int)) (a1_1_0 : Int) (a1_1_1 : Int) (l1_1_2 : (List Int)) (l1_1_3 : (List Int)) (a1_2 : Int) (a2_0_0 : Int) (a2_0_1 : Int) (l2_1 : (List P.S23)), (Lit.int .i64 a0_0).wf = true → (Lit.int .i64 a0_1).wf = true → (Lit.int .i64 a0_2_0).wf = true → (Lit.int .i64 a0_2_1).wf = true → (Lit.int .i64 a1_0_0).wf = true → (Lit.int .i64 a1_0_1).wf = true → (l1_0_2.length ≤ 9223372036854775807 ∧ ∀ y ∈ l1_0_2, (Lit.int .i64 y).wf = true) → (l1_0_3.length ≤ 9223372036854775807 ∧ ∀ y ∈ l1_0_3, (Lit.int .i64 y).wf = true) → (Lit.int .i64 a1_1_0).wf = true → (Lit.int .i64 a1_1_1).wf = true → (l1_1_2.length ≤ 9223372036854775807 ∧ ∀ y ∈ l1_1_2, (Lit.int .i64 y).wf = true) → (l1_1_3.length ≤ 9223372036854775807 ∧ ∀ y ∈ l1_1_3, (Lit.int .i64 y).wf = true) → (Lit.int .i64 a1_2).wf = true → (Lit.int .i64 a2_0_0).wf = true → (Lit.int .i64 a2_0_1).wf = true → (l2_1.length ≤ 9223372036854775807 ∧ ∀ y ∈ l2_1, (Lit.int .i64 y.f0).wf = true ∧ (Lit.int .i64 y.f1).wf = true) → P.laws_FnExactAskMay.f a0_0 a0_1 a0_2_0 a0_2_1 a1_0_0 a1_0_1 l1_0_2 l1_0_3 a1_1_0 a1_1_1 l1_1_2 l1_1_3 a1_2 a2_0_0 a2_0_1 l2_1 = some true
end Go.Proofs.Ytnffoddeppimkaa
namespace Go.Proofs.Ytnffoddeppimkaa
open Go.RowKit Go.Proofs.YtnffoddeppimkaaW.PrintWords P
set_option linter.unusedVariables false
set_option linter.unusedSimpArgs false
theorem ite_andP (p : Prop) [Decidable p] (c : Bool) : (if p then some c else some false) = some (decide p && c) := by
  by_cases h : p <;> simp [h]
def small (n : Nat) : Prop := n ≤ 1048576
def colB (a0 a1 : Int) (l2 l3 : List Int) : Bool := idsB l3 9 && decide (1 ≤ a0 ∧ a0 ≤ 2) && vecB a1 l2
def batB (a0 a1 : Int) (l2 l3 : List Int) (a4 a5 : Int) (l6 l7 : List Int) (a8 : Int) : Bool :=
  colB a0 a1 l2 l3 && (colB a4 a5 l6 l7 && (decide (a0 = 1) && (decide (a4 = 2) && (decide (a1 = a5) && (decide (l3 = l7) && decide (1 ≤ a8 ∧ a8 ≤ 9))))))
theorem l6In_eq (a b c : Int) : spec_l6In.f a b c = some (decide (b ≤ a ∧ a ≤ c)) := by
  unfold spec_l6In.f; rw [ite_andP]; simp [GE.ge]
theorem within_eq (a b c : Int) : impl_within.f a b c = some (decide (b ≤ a ∧ a ≤ c)) := by
  unfold impl_within.f; rw [ite_andP]; simp [GE.ge]
theorem sColOk_eq {a0 a1 : Int} {l2 l3 : List Int} (h2 : small l2.length) (h3 : small l3.length) : spec_ColOk_c.f a0 a1 l2 l3 = some (colB a0 a1 l2 l3) := by
  unfold spec_ColOk_c.f; rw [if_pos (by unfold small at h2 h3; omega)]; rfl
theorem iColOk_eq (a0 a1 : Int) (l2 l3 : List Int) : impl_ColOk.f a0 a1 l2 l3 = some (colB a0 a1 l2 l3) := by
  unfold impl_ColOk.f impl_sized.f
  simp only [within_eq, impl_TypeLen.f, impl_kindOk.f, impl_elementsOk.f, impl_idsOk.f, Option.bind_some, ite_andP]
  congr 1
  unfold colB vecB elsB
  generalize idsB l3 9 = p
  generalize (l2.all fun n => decide (0 ≤ n ∧ n ≤ 30)) = q
  generalize kindB a1 = r
  generalize lenOf a1 = s
  generalize decide (1 ≤ a0 ∧ a0 ≤ 2) = t
  by_cases h1 : (l2.length : Int) = s <;> by_cases h2 : (l2.length : Int) ≤ 20 <;> cases p <;> cases q <;> cases r <;> cases t <;> simp [h1, h2] <;> omega
theorem sBatchOk_eq {a0 a1 : Int} {l2 l3 : List Int} {a4 a5 : Int} {l6 l7 : List Int} {a8 : Int} (h2 : small l2.length) (h3 : small l3.length) (h6 : small l6.length) (h7 : small l7.length) :
    spec_BatchOk.f a0 a1 l2 l3 a4 a5 l6 l7 a8 = some (batB a0 a1 l2 l3 a4 a5 l6 l7 a8) := by
  unfold spec_BatchOk.f spec_l12Same_c.f
  rw [if_pos (show l3.length ≤ 35184372088832 by unfold small at h3; omega)]
  simp only [sColOk_eq h2 h3, sColOk_eq h6 h7, l6In_eq, Option.bind_some, ite_andP, Bool.decide_eq_true]
  rfl
theorem iBatchOk_eq {a0 a1 : Int} {l2 l3 : List Int} {a4 a5 : Int} {l6 l7 : List Int} {a8 : Int} (h3 : small l3.length) :
    impl_BatchOk.f a0 a1 l2 l3 a4 a5 l6 l7 a8 = some (batB a0 a1 l2 l3 a4 a5 l6 l7 a8) := by
  unfold impl_BatchOk.f slices_Equal_int_int_c.f impl_needOk.f
  rw [if_pos (show l3.length ≤ 35184372088832 by unfold small at h3; omega)]
  simp only [iColOk_eq, within_eq, Option.bind_some, ite_andP, Bool.decide_eq_true]
  rfl
def askB (k n cn cd : Int) : Bool := kindB k && (decide (1 ≤ n ∧ n ≤ 9) && (fracOkB cn cd && decide (cn > 0)))
theorem sAskOk_eq (k n cn cd : Int) : spec_AskOk.f k n cn cd = some (askB k n cn cd) := by
  unfold spec_AskOk.f spec_l11Kind.f spec_FracOk.f
  simp only [l6In_eq, Option.bind_some, ite_andP, Bool.decide_eq_true]
  rfl
theorem iAskOk_eq (k n cn cd : Int) : impl_AskOk.f k n cn cd = some (askB k n cn cd) := by
  unfold impl_AskOk.f impl_kindOk.f impl_needOk.f impl_FracOk.f
  simp only [within_eq, Option.bind_some, ite_andP, Bool.decide_eq_true]
  rfl
def frs (l : List S30) : List Fr := l.map fun x => ⟨x.f0, x.f1⟩
def mayB (k n cn cd b1 : Int) (l3 : List Int) (b8 c d : Int) (l : List S30) : Bool :=
  decide (b1 = k) && (decide ((l3.length : Int) ≥ n) && (decide ((l3.length : Int) ≥ b8) && (payL ⟨⟨c, d⟩, frs l⟩ ⟨cn, cd⟩).2))
def askMayB (k n cn cd a0 a1 : Int) (l2 l3 : List Int) (a4 a5 : Int) (l6 l7 : List Int) (a8 c d : Int) (l : List S30) : Bool :=
  askB k n cn cd && (batB a0 a1 l2 l3 a4 a5 l6 l7 a8 && (ledOk ⟨c, d⟩ (frs l) && mayB k n cn cd a1 l3 a8 c d l))
theorem payL_ok (c d : Int) (fs : List Fr) (f : Fr) : (payL ⟨⟨c, d⟩, fs⟩ f).2 = (ledOk ⟨c, d⟩ fs && (f.ok && ledOk ⟨c, d⟩ (fs ++ [f]))) := by
  unfold payL
  show (if (ledOk ⟨c, d⟩ fs && f.ok) = true then (if ledOk ⟨c, d⟩ (fs ++ [f]) = true then _ else _) else _ : Led × Bool).2 = _
  cases ledOk ⟨c, d⟩ fs <;> cases f.ok <;> cases ledOk ⟨c, d⟩ (fs ++ [f]) <;> rfl
theorem sLedgerOk_eq {c d : Int} {l : List S30} (h : l.length ≤ 2000000) : spec_LedgerOk.f c d l = some (ledOk ⟨c, d⟩ (frs l)) := by
  unfold spec_LedgerOk.f; rw [if_pos h]; rfl
theorem sLedgerCan_eq {c d cn cd : Int} {l : List S30} (h : small l.length) : spec_LedgerCan.f c d l cn cd = some (payL ⟨⟨c, d⟩, frs l⟩ ⟨cn, cd⟩).2 := by
  unfold small at h
  unfold spec_LedgerCan.f spec_FracOk.f spec_l32Pay.f
  simp only [sLedgerOk_eq (show l.length ≤ 2000000 by omega), Option.bind_some, List.length_nil, Nat.zero_add, List.nil_append, List.length_singleton]
  rw [if_pos (show l.length < 8796093022208 by omega), if_pos (show l.length + 1 < 8796093022208 by omega)]
  simp only [Option.bind_some, sLedgerOk_eq (show (l ++ [(⟨cn, cd⟩ : S30)]).length ≤ 2000000 by simp; omega), ite_andP, Bool.decide_eq_true]
  rw [payL_ok]
  have : frs (l ++ [(⟨cn, cd⟩ : S30)]) = frs l ++ [⟨cn, cd⟩] := by simp [frs]
  rw [this]; rfl
theorem sAskMay_eq {k n cn cd a0 a1 : Int} {l2 l3 : List Int} {a4 a5 : Int} {l6 l7 : List Int} {a8 c d : Int} {l : List S30} (h2 : small l2.length) (h3 : small l3.length) (h6 : small l6.length) (h7 : small l7.length) (hl : small l.length) :
    spec_AskMay.f k n cn cd a0 a1 l2 l3 a4 a5 l6 l7 a8 c d l = some (askMayB k n cn cd a0 a1 l2 l3 a4 a5 l6 l7 a8 c d l) := by
  unfold spec_AskMay.f spec_l42May.f
  have hl' : l.length ≤ 2000000 := by unfold small at hl; omega
  simp only [sAskOk_eq, sBatchOk_eq h2 h3 h6 h7, sLedgerOk_eq hl', sLedgerCan_eq hl, Option.bind_some, ite_andP, Bool.decide_eq_true]
  unfold askMayB mayB
  rw [show decide (k = a1) = decide (a1 = k) from by simp [eq_comm]]
theorem iAskMay_eq {k n cn cd a0 a1 : Int} {l2 l3 : List Int} {a4 a5 : Int} {l6 l7 : List Int} {a8 c d : Int} {l : List S30} (h3 : small l3.length) :
    impl_AskMay.f k n cn cd a0 a1 l2 l3 a4 a5 l6 l7 a8 c d l = some (askMayB k n cn cd a0 a1 l2 l3 a4 a5 l6 l7 a8 c d l) := by
  unfold impl_AskMay.f
  simp only [iAskOk_eq, iBatchOk_eq h3, Option.bind_some, ite_andP, Bool.decide_eq_true]
  rfl
theorem szI_eq (l : List Int) (a : Int) (ha : 0 ≤ a) (ha2 : a ≤ 1048576) (hl : l.length ≤ 9223372036854775807) : laws_szIntS.f l a = some (if a - l.length < 0 then -1 else a - l.length) := by
  have hw : wrap64 (a - (l.length : Int)) = a - l.length := by unfold wrap64; omega
  unfold laws_szIntS.f
  rw [hw]; split <;> rfl
theorem szF_eq (l : List S23) (a : Int) (ha : 0 ≤ a) (ha2 : a ≤ 1048576) (hl : l.length ≤ 9223372036854775807) : laws_szFracS.f l a = some (if a - l.length < 0 then -1 else a - l.length) := by
  have hw : wrap64 (a - (l.length : Int)) = a - l.length := by unfold wrap64; omega
  unfold laws_szFracS.f
  rw [hw]; split <;> rfl
theorem szCol_eq (a0 a1 : Int) (l2 l3 : List Int) (a : Int) (ha : 0 ≤ a) (ha2 : a ≤ 1048576) (h2 : l2.length ≤ 9223372036854775807) (h3 : l3.length ≤ 9223372036854775807) :
    (∃ t, laws_szCol.f a0 a1 l2 l3 a = some t ∧ t < 0) ∨ ∃ t, laws_szCol.f a0 a1 l2 l3 a = some t ∧ 0 ≤ t ∧ t ≤ a ∧ small l2.length ∧ small l3.length := by
  unfold laws_szCol.f
  rw [szI_eq l2 a ha ha2 h2]
  by_cases g2 : a - (l2.length : Int) < 0
  · left; exact ⟨-1, by simp [g2], by omega⟩
  · simp only [if_neg g2, Option.bind_some]
    rw [szI_eq l3 _ (by omega) (by omega) h3]
    by_cases g3 : a - (l2.length : Int) - l3.length < 0
    · left; exact ⟨-1, by simp [g3], by omega⟩
    · right; exact ⟨a - l2.length - l3.length, by simp only [if_neg g3, Option.bind_some], by omega, by omega, by unfold small; omega, by unfold small; omega⟩
theorem szBatch_eq (a0 a1 : Int) (l2 l3 : List Int) (a4 a5 : Int) (l6 l7 : List Int) (a8 a : Int) (ha : 0 ≤ a) (ha2 : a ≤ 1048576) (h2 : l2.length ≤ 9223372036854775807) (h3 : l3.length ≤ 9223372036854775807) (h6 : l6.length ≤ 9223372036854775807) (h7 : l7.length ≤ 9223372036854775807) :
    (∃ t, laws_szBatch.f a0 a1 l2 l3 a4 a5 l6 l7 a8 a = some t ∧ t < 0) ∨ ∃ t, laws_szBatch.f a0 a1 l2 l3 a4 a5 l6 l7 a8 a = some t ∧ 0 ≤ t ∧ t ≤ a ∧ small l2.length ∧ small l3.length ∧ small l6.length ∧ small l7.length := by
  unfold laws_szBatch.f
  rcases szCol_eq a0 a1 l2 l3 a ha ha2 h2 h3 with ⟨t, e, ht⟩ | ⟨t, e, h0, h1, s2, s3⟩
  · left; exact ⟨-1, by rw [e]; simp [ht], by omega⟩
  · rw [e]
    simp only [Option.bind_some, if_neg (show ¬ t < 0 by omega)]
    rcases szCol_eq a4 a5 l6 l7 t h0 (by omega) h6 h7 with ⟨u, e2, hu⟩ | ⟨u, e2, g0, g1, s6, s7⟩
    · left; exact ⟨-1, by rw [e2]; simp [hu], by omega⟩
    · right; exact ⟨u, by rw [e2]; simp only [Option.bind_some, if_neg (show ¬ u < 0 by omega)], g0, by omega, s2, s3, s6, s7⟩
theorem toI_eq {l : List Int} (h : small l.length) : laws_toIntS_c.f l = some l := by unfold laws_toIntS_c.f; rw [if_pos (by unfold small at h; omega)]
theorem eqI_eq {l : List Int} (h : small l.length) : laws_eqIntS_c.f l l = some true := by unfold laws_eqIntS_c.f; rw [if_pos ⟨by unfold small at h; omega, rfl⟩]
theorem toBatch_eq {a0 a1 : Int} {l2 l3 : List Int} {a4 a5 : Int} {l6 l7 : List Int} {a8 : Int} (h2 : small l2.length) (h3 : small l3.length) (h6 : small l6.length) (h7 : small l7.length) :
    laws_toBatch.f a0 a1 l2 l3 a4 a5 l6 l7 a8 = some (a0, a1, l2, l3, a4, a5, l6, l7, a8) := by
  unfold laws_toBatch.f laws_toCol.f
  simp only [toI_eq h2, toI_eq h3, toI_eq h6, toI_eq h7, Option.bind_some]
theorem eqBatch_eq {a0 a1 : Int} {l2 l3 : List Int} {a4 a5 : Int} {l6 l7 : List Int} {a8 : Int} (h2 : small l2.length) (h3 : small l3.length) (h6 : small l6.length) (h7 : small l7.length) :
    laws_eqBatch.f a0 a1 l2 l3 a4 a5 l6 l7 a8 a0 a1 l2 l3 a4 a5 l6 l7 a8 = some true := by
  unfold laws_eqBatch.f laws_eqCol.f
  simp only [eqI_eq h2, eqI_eq h3, eqI_eq h6, eqI_eq h7, Option.bind_some, if_true]
def toFrs (l : List S23) : List S30 := l.map fun x => ⟨x.f0, x.f1⟩
theorem toLedger_eq {c d : Int} {l : List S23} (h : small l.length) : laws_toLedger.f c d l = some (c, d, toFrs l) := by
  unfold laws_toLedger.f laws_toFrac.f laws_toFracS_c.f
  rw [if_pos (by unfold small at h; omega)]; rfl
theorem eqLedger_eq {c d : Int} {l : List S30} (h : small l.length) : laws_eqLedger.f c d l c d l = some true := by
  unfold laws_eqLedger.f laws_eqFrac.f laws_eqFracS_c.f
  rw [if_pos (⟨by unfold small at h; omega, rfl⟩ : l.length ≤ 35184372088832 ∧ _)]
  simp
theorem FnExactAskMay.pure : FnExactAskMayPure := by
  intro k n cn cd a0 a1 l2 l3 a4 a5 l6 l7 a8 c d l _ _ _ _ _ _ w2 w3 _ _ w6 w7 _ _ _ wl
  unfold laws_FnExactAskMay.f
  rcases szBatch_eq a0 a1 l2 l3 a4 a5 l6 l7 a8 1048576 (by omega) (by omega) w2.1 w3.1 w6.1 w7.1 with ⟨t, e, ht⟩ | ⟨t, e, h0, h1, h2, h3, h6, h7⟩
  · rw [e]; simp only [Option.bind_some, if_pos ht]
  rw [e]
  simp only [Option.bind_some, if_neg (show ¬ t < 0 by omega)]
  unfold laws_szLedger.f
  rw [szF_eq l t h0 h1 wl.1]
  by_cases g : t - (l.length : Int) < 0
  · simp [g]
  simp only [if_neg g, Option.bind_some]
  have hl : small l.length := by unfold small; omega
  have hl2 : small (toFrs l).length := by unfold toFrs; simpa using hl
  unfold laws_toAsk.f laws_toFrac.f
  simp only [Option.bind_some, toBatch_eq h2 h3 h6 h7, toLedger_eq hl, sAskMay_eq h2 h3 h6 h7 hl2, iAskMay_eq h3, eqBatch_eq h2 h3 h6 h7, eqLedger_eq hl2, if_true]
  simp
end Go.Proofs.Ytnffoddeppimkaa
