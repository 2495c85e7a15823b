/- Comparison of fractions, both sides. -/
import Derived.Test.YtfebbpihcngjoaaFracC
namespace Go.Proofs.Ytfebbpihcngjoaa
open Go.RowKit
set_option linter.unusedVariables false
set_option linter.unusedSimpArgs false

def cmpI (x y : Int) : Int := if x < y then -1 else if y < x then 1 else 0
theorem cmpI_b (x y : Int) : -1 ≤ cmpI x y ∧ cmpI x y ≤ 1 := by unfold cmpI; split <;> (try split) <;> omega
def fcmp (a b : Fr) : Int := if a.ok && b.ok then cmpI (a.n * b.d) (b.n * a.d) else 0

theorem isNaN_c (x : Int) (w : World) : Calls Try.prog 101 #[.int .i64 x] w fun e w' => e = .returned (.bool false) ∧ w = w' := by
  go_enter Try.func101, Try.ntmps101
  go_wp2
  go_ret
  exact ⟨ret_b (by simp), rfl⟩

theorem compare_c (x y : Int) (w : World) : Calls Try.prog 95 #[.int .i64 x, .int .i64 y] w fun e w' => e = .returned (.int .i64 (cmpI x y)) ∧ w = w' := by
  by_cases h1 : x < y
  · go_enter Try.func95, Try.ntmps95
    go_wp2_with (go_at_call 101; refine (isNaN_c _ _).mono ?_; rintro e w' ⟨rfl, rfl⟩)
    go_ret
    exact ⟨ret_i (by unfold cmpI; rw [if_pos h1]), rfl⟩
  · by_cases h2 : y < x
    · go_enter Try.func95, Try.ntmps95
      go_wp2_with (go_at_call 101; refine (isNaN_c _ _).mono ?_; rintro e w' ⟨rfl, rfl⟩)
      go_ret
      exact ⟨ret_i (by unfold cmpI; rw [if_neg (by omega), if_pos h2]), rfl⟩
    · go_enter Try.func95, Try.ntmps95
      go_wp2_with (go_at_call 101; refine (isNaN_c _ _).mono ?_; rintro e w' ⟨rfl, rfl⟩)
      go_ret
      exact ⟨ret_i (by unfold cmpI; rw [if_neg (by omega), if_neg (by omega)]), rfl⟩

theorem l31Cmp_c (a b : Fr) (w : World) (ha : a.ok = true) (hb : b.ok = true) :
    Calls Try.prog 58 #[a.v, b.v] w fun e w' => e = .returned (.int .i64 (cmpI (a.n * b.d) (b.n * a.d))) ∧ Below w.heap.size w w' := by
  have hs := sumb ha hb
  obtain ⟨an, ad⟩ := a
  obtain ⟨bn, bd⟩ := b
  simp only at hs
  obtain ⟨g1, g2, g3, g4, g5, g6⟩ := hs
  simp only [Fr.v]
  clear ha hb
  by_cases h1 : an * bd < bn * ad
  · go_enter Try.func58, Try.ntmps58
    go_wp2
    go_ret
    exact ⟨ret_i (by unfold cmpI; rw [if_pos h1]), (by repeat' (first | with_reducible exact bl_refl _ | with_reducible apply bl_alloc | with_reducible apply bl_drewN | with_reducible apply bl_drew | with_reducible apply bl_set | with_reducible refine bl_call (by assumption) ?_ | (simp; done) | (simp; omega) | omega))⟩
  · by_cases h2 : bn * ad < an * bd
    · go_enter Try.func58, Try.ntmps58
      go_wp2
      go_ret
      exact ⟨ret_i (by unfold cmpI; rw [if_neg (by omega), if_pos h2]), (by repeat' (first | with_reducible exact bl_refl _ | with_reducible apply bl_alloc | with_reducible apply bl_drewN | with_reducible apply bl_drew | with_reducible apply bl_set | with_reducible refine bl_call (by assumption) ?_ | (simp; done) | (simp; omega) | omega))⟩
    · go_enter Try.func58, Try.ntmps58
      go_wp2
      go_ret
      exact ⟨ret_i (by unfold cmpI; rw [if_neg (by omega), if_neg (by omega)]), (by repeat' (first | with_reducible exact bl_refl _ | with_reducible apply bl_alloc | with_reducible apply bl_drewN | with_reducible apply bl_drew | with_reducible apply bl_set | with_reducible refine bl_call (by assumption) ?_ | (simp; done) | (simp; omega) | omega))⟩

theorem iFracCmp_c (a b : Fr) (w : World) :
    Calls Try.prog 84 #[a.v, b.v] w fun e w' => e = .returned (.int .i64 (fcmp a b)) ∧ Below w.heap.size w w' := by
  obtain ⟨an, ad⟩ := a
  obtain ⟨bn, bd⟩ := b
  by_cases hok : fracOkB an ad = true ∧ fracOkB bn bd = true
  · obtain ⟨ha, hb⟩ := hok
    have hs := sumb (a := ⟨an, ad⟩) (b := ⟨bn, bd⟩) ha hb
    simp only at hs
    obtain ⟨h1, h2, h3, h4, h5, h6⟩ := hs
    have hf : fcmp ⟨an, ad⟩ ⟨bn, bd⟩ = cmpI (an * bd) (bn * ad) := by unfold fcmp Fr.ok; exact if_pos (by simp [ha, hb])
    rw [hf]
    simp only [Fr.v]
    have Ha := Lib.hid ha
    have Hb := Lib.hid hb
    clear ha hb hf
    go_enter Try.func84, Try.ntmps84
    go_wp2_with fail
    refine (iFracOk_c _ _ _).mono ?_; rintro e w1 ⟨rfl, hb1⟩; rw [Ha.out]; have hzw1_0 : w.heap.size < w1.heap.size := (by have hzz := hb1.size; (try simp at hzz); omega); have hzw1_1 : w.heap.size + 1 < w1.heap.size := (by have hzz := hb1.size; (try simp at hzz); omega); have Lw1 := Locals.call hb1 (L := [(⟨w.heap.size, 0, none⟩, .int .i64 an), (⟨w.heap.size, 1, none⟩, .int .i64 ad), (⟨w.heap.size + 1, 0, none⟩, .int .i64 bn), (⟨w.heap.size + 1, 1, none⟩, .int .i64 bd)]) (by simp only [Locals]; repeat' (first | exact trivial | apply And.intro) <;> go_simp); obtain ⟨⟨cw1_0, fw1_0⟩, ⟨cw1_1, fw1_1⟩, ⟨cw1_2, fw1_2⟩, ⟨cw1_3, fw1_3⟩, -⟩ := Lw1
    go_wp2_with fail
    refine (iFracOk_c _ _ _).mono ?_; rintro e w2 ⟨rfl, hb2⟩; rw [Hb.out]; have hzw2_0 : w.heap.size < w2.heap.size := (by have hzz := hb2.size; (try simp at hzz); omega); have hzw2_1 : w.heap.size + 1 < w2.heap.size := (by have hzz := hb2.size; (try simp at hzz); omega); have Lw2 := Locals.call hb2 (L := [(⟨w.heap.size, 0, none⟩, .int .i64 an), (⟨w.heap.size, 1, none⟩, .int .i64 ad), (⟨w.heap.size + 1, 0, none⟩, .int .i64 bn), (⟨w.heap.size + 1, 1, none⟩, .int .i64 bd)]) (by simp only [Locals]; repeat' (first | exact trivial | apply And.intro) <;> go_simp); obtain ⟨⟨cw2_0, fw2_0⟩, ⟨cw2_1, fw2_1⟩, ⟨cw2_2, fw2_2⟩, ⟨cw2_3, fw2_3⟩, -⟩ := Lw2
    go_wp2_with fail
    refine (compare_c _ _ _).mono ?_; rintro e w' ⟨rfl, rfl⟩
    go_wp2_with fail
    go_ret
    exact ⟨rfl, (by repeat' (first | with_reducible exact bl_refl _ | with_reducible apply bl_alloc | with_reducible apply bl_drewN | with_reducible apply bl_drew | with_reducible apply bl_set | with_reducible refine bl_call (by assumption) ?_ | (simp; done) | (simp; omega) | omega))⟩
  · have hf : fcmp ⟨an, ad⟩ ⟨bn, bd⟩ = 0 := by unfold fcmp Fr.ok; exact if_neg (by simpa using hok)
    rw [hf]
    simp only [Fr.v]
    clear hf
    cases ha : fracOkB an ad
    · have Ha := Lib.hid ha
      clear ha hok
      go_enter Try.func84, Try.ntmps84
      go_wp2_with fail
      refine (iFracOk_c _ _ _).mono ?_; rintro e w1 ⟨rfl, hb1⟩; rw [Ha.out]; have hzw1_0 : w.heap.size < w1.heap.size := (by have hzz := hb1.size; (try simp at hzz); omega); have hzw1_1 : w.heap.size + 1 < w1.heap.size := (by have hzz := hb1.size; (try simp at hzz); omega); have Lw1 := Locals.call hb1 (L := [(⟨w.heap.size, 0, none⟩, .int .i64 an), (⟨w.heap.size, 1, none⟩, .int .i64 ad), (⟨w.heap.size + 1, 0, none⟩, .int .i64 bn), (⟨w.heap.size + 1, 1, none⟩, .int .i64 bd)]) (by simp only [Locals]; repeat' (first | exact trivial | apply And.intro) <;> go_simp); obtain ⟨⟨cw1_0, fw1_0⟩, ⟨cw1_1, fw1_1⟩, ⟨cw1_2, fw1_2⟩, ⟨cw1_3, fw1_3⟩, -⟩ := Lw1
      go_wp2_with fail
      go_ret
      exact ⟨rfl, (by repeat' (first | with_reducible exact bl_refl _ | with_reducible apply bl_alloc | with_reducible apply bl_drewN | with_reducible apply bl_drew | with_reducible apply bl_set | with_reducible refine bl_call (by assumption) ?_ | (simp; done) | (simp; omega) | omega))⟩
    · have hb : fracOkB bn bd = false := by simpa [ha] using hok
      have Ha := Lib.hid ha
      have Hb := Lib.hid hb
      clear ha hb hok
      go_enter Try.func84, Try.ntmps84
      go_wp2_with fail
      refine (iFracOk_c _ _ _).mono ?_; rintro e w1 ⟨rfl, hb1⟩; rw [Ha.out]; have hzw1_0 : w.heap.size < w1.heap.size := (by have hzz := hb1.size; (try simp at hzz); omega); have hzw1_1 : w.heap.size + 1 < w1.heap.size := (by have hzz := hb1.size; (try simp at hzz); omega); have Lw1 := Locals.call hb1 (L := [(⟨w.heap.size, 0, none⟩, .int .i64 an), (⟨w.heap.size, 1, none⟩, .int .i64 ad), (⟨w.heap.size + 1, 0, none⟩, .int .i64 bn), (⟨w.heap.size + 1, 1, none⟩, .int .i64 bd)]) (by simp only [Locals]; repeat' (first | exact trivial | apply And.intro) <;> go_simp); obtain ⟨⟨cw1_0, fw1_0⟩, ⟨cw1_1, fw1_1⟩, ⟨cw1_2, fw1_2⟩, ⟨cw1_3, fw1_3⟩, -⟩ := Lw1
      go_wp2_with fail
      refine (iFracOk_c _ _ _).mono ?_; rintro e w2 ⟨rfl, hb2⟩; rw [Hb.out]; have hzw2_0 : w.heap.size < w2.heap.size := (by have hzz := hb2.size; (try simp at hzz); omega); have hzw2_1 : w.heap.size + 1 < w2.heap.size := (by have hzz := hb2.size; (try simp at hzz); omega); have Lw2 := Locals.call hb2 (L := [(⟨w.heap.size, 0, none⟩, .int .i64 an), (⟨w.heap.size, 1, none⟩, .int .i64 ad), (⟨w.heap.size + 1, 0, none⟩, .int .i64 bn), (⟨w.heap.size + 1, 1, none⟩, .int .i64 bd)]) (by simp only [Locals]; repeat' (first | exact trivial | apply And.intro) <;> go_simp); obtain ⟨⟨cw2_0, fw2_0⟩, ⟨cw2_1, fw2_1⟩, ⟨cw2_2, fw2_2⟩, ⟨cw2_3, fw2_3⟩, -⟩ := Lw2
      go_wp2_with fail
      go_ret
      exact ⟨rfl, (by repeat' (first | with_reducible exact bl_refl _ | with_reducible apply bl_alloc | with_reducible apply bl_drewN | with_reducible apply bl_drew | with_reducible apply bl_set | with_reducible refine bl_call (by assumption) ?_ | (simp; done) | (simp; omega) | omega))⟩

end Go.Proofs.Ytfebbpihcngjoaa
