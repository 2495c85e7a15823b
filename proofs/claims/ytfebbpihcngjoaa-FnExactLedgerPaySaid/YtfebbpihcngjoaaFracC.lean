/- Sums and comparisons of fractions, both sides. -/
import Derived.Test.YtfebbpihcngjoaaFracB
namespace Go.Proofs.Ytfebbpihcngjoaa
open Go.RowKit
set_option linter.unusedVariables false
set_option linter.unusedSimpArgs false

structure Fr where
  n : Int
  d : Int
def Fr.ok (f : Fr) : Bool := fracOkB f.n f.d
def Fr.v (f : Fr) : Value := .agg #[.int .i64 f.n, .int .i64 f.d]
def Fr.zero : Fr := ⟨0, 0⟩
theorem Fr.bounds {f : Fr} (h : f.ok = true) : 0 ≤ f.n ∧ f.n ≤ 999 ∧ 1 ≤ f.d ∧ f.d ≤ 60 := by
  simp [Fr.ok, fracOkB] at h; omega
def fsum (a b : Fr) : Fr × Bool :=
  if a.ok && b.ok then (⟨redN (a.n * b.d + b.n * a.d) (a.d * b.d), redD (a.n * b.d + b.n * a.d) (a.d * b.d)⟩, redB (a.n * b.d + b.n * a.d) (a.d * b.d)) else (Fr.zero, false)

theorem mulb {x y m n : Int} (h1 : 0 ≤ x) (h2 : x ≤ m) (h3 : 0 ≤ y) (h4 : y ≤ n) : 0 ≤ x * y ∧ x * y ≤ m * n :=
  ⟨Int.mul_nonneg h1 h3, Int.mul_le_mul h2 h4 h3 (by omega)⟩

theorem sumb {a b : Fr} (ha : a.ok = true) (hb : b.ok = true) : 0 ≤ a.n * b.d ∧ a.n * b.d ≤ 59940 ∧ 0 ≤ b.n * a.d ∧ b.n * a.d ≤ 59940 ∧ 1 ≤ a.d * b.d ∧ a.d * b.d ≤ 3600 := by
  obtain ⟨a1, a2, a3, a4⟩ := Fr.bounds ha
  obtain ⟨b1, b2, b3, b4⟩ := Fr.bounds hb
  have h1 := mulb a1 a2 (by omega) b4
  have h2 := mulb b1 b2 (by omega) a4
  have h3 := mulb (x := a.d) (y := b.d) (by omega) a4 (by omega) b4
  have h4 : 1 * 1 ≤ a.d * b.d := Int.mul_le_mul a3 b3 (by omega) (by omega)
  omega

theorem iFracSum_c (a b : Fr) (w : World) :
    Calls Try.prog 83 #[a.v, b.v] w fun e w' => e = .returned (.tuple #[(fsum a b).1.v, .bool (fsum a b).2]) ∧ Below w.heap.size w w' := by
  obtain ⟨an, ad⟩ := a
  obtain ⟨bn, bd⟩ := b
  by_cases hok : fracOkB an ad = true ∧ fracOkB bn bd = true
  · obtain ⟨ha, hb⟩ := hok
    have hs := sumb (a := ⟨an, ad⟩) (b := ⟨bn, bd⟩) ha hb
    simp only at hs
    obtain ⟨h1, h2, h3, h4, h5, h6⟩ := hs
    have hf : fsum ⟨an, ad⟩ ⟨bn, bd⟩ = (⟨redN (an * bd + bn * ad) (ad * bd), redD (an * bd + bn * ad) (ad * bd)⟩, redB (an * bd + bn * ad) (ad * bd)) := by
      simp [fsum, Fr.ok, ha, hb]
    rw [hf]
    simp only [Fr.v]
    have Ha := Lib.hid ha
    have Hb := Lib.hid hb
    clear ha hb hf
    go_enter Try.func83, Try.ntmps83
    go_wp2_with fail
    refine (iFracOk_c _ _ _).mono ?_; rintro e w1 ⟨rfl, hb1⟩; rw [Ha.out]; have hzw1_0 : w.heap.size < w1.heap.size := (by have hzz := hb1.size; (try simp at hzz); omega); have hzw1_1 : w.heap.size + 1 < w1.heap.size := (by have hzz := hb1.size; (try simp at hzz); omega); have hzw1_2 : w.heap.size + 1 + 1 < w1.heap.size := (by have hzz := hb1.size; (try simp at hzz); omega); have Lw1 := Locals.call hb1 (L := [(⟨w.heap.size, 0, none⟩, .int .i64 an), (⟨w.heap.size, 1, none⟩, .int .i64 ad), (⟨w.heap.size + 1, 0, none⟩, .int .i64 bn), (⟨w.heap.size + 1, 1, none⟩, .int .i64 bd), (⟨w.heap.size + 1 + 1, 0, none⟩, .int .i64 0), (⟨w.heap.size + 1 + 1, 1, none⟩, .int .i64 0)]) (by simp only [Locals]; repeat' (first | exact trivial | apply And.intro) <;> go_simp); obtain ⟨⟨cw1_0, fw1_0⟩, ⟨cw1_1, fw1_1⟩, ⟨cw1_2, fw1_2⟩, ⟨cw1_3, fw1_3⟩, ⟨cw1_4, fw1_4⟩, ⟨cw1_5, fw1_5⟩, -⟩ := Lw1
    go_wp2_with fail
    refine (iFracOk_c _ _ _).mono ?_; rintro e w2 ⟨rfl, hb2⟩; rw [Hb.out]; have hzw2_0 : w.heap.size < w2.heap.size := (by have hzz := hb2.size; (try simp at hzz); omega); have hzw2_1 : w.heap.size + 1 < w2.heap.size := (by have hzz := hb2.size; (try simp at hzz); omega); have hzw2_2 : w.heap.size + 1 + 1 < w2.heap.size := (by have hzz := hb2.size; (try simp at hzz); omega); have Lw2 := Locals.call hb2 (L := [(⟨w.heap.size, 0, none⟩, .int .i64 an), (⟨w.heap.size, 1, none⟩, .int .i64 ad), (⟨w.heap.size + 1, 0, none⟩, .int .i64 bn), (⟨w.heap.size + 1, 1, none⟩, .int .i64 bd), (⟨w.heap.size + 1 + 1, 0, none⟩, .int .i64 0), (⟨w.heap.size + 1 + 1, 1, none⟩, .int .i64 0)]) (by simp only [Locals]; repeat' (first | exact trivial | apply And.intro) <;> go_simp); obtain ⟨⟨cw2_0, fw2_0⟩, ⟨cw2_1, fw2_1⟩, ⟨cw2_2, fw2_2⟩, ⟨cw2_3, fw2_3⟩, ⟨cw2_4, fw2_4⟩, ⟨cw2_5, fw2_5⟩, -⟩ := Lw2
    go_wp2_with fail
    refine (reduced_c _ _ _ (by omega) (by omega) (by omega) (by omega)).mono ?_; rintro e w3 ⟨rfl, hb3⟩; have hzw3_0 : w.heap.size < w3.heap.size := (by have hzz := hb3.size; (try simp at hzz); omega); have hzw3_1 : w.heap.size + 1 < w3.heap.size := (by have hzz := hb3.size; (try simp at hzz); omega); have hzw3_2 : w.heap.size + 1 + 1 < w3.heap.size := (by have hzz := hb3.size; (try simp at hzz); omega); have Lw3 := Locals.call hb3 (L := [(⟨w.heap.size, 0, none⟩, .int .i64 an), (⟨w.heap.size, 1, none⟩, .int .i64 ad), (⟨w.heap.size + 1, 0, none⟩, .int .i64 bn), (⟨w.heap.size + 1, 1, none⟩, .int .i64 bd), (⟨w.heap.size + 1 + 1, 0, none⟩, .int .i64 0), (⟨w.heap.size + 1 + 1, 1, none⟩, .int .i64 0)]) (by simp only [Locals]; repeat' (first | exact trivial | apply And.intro) <;> go_simp); obtain ⟨⟨cw3_0, fw3_0⟩, ⟨cw3_1, fw3_1⟩, ⟨cw3_2, fw3_2⟩, ⟨cw3_3, fw3_3⟩, ⟨cw3_4, fw3_4⟩, ⟨cw3_5, fw3_5⟩, -⟩ := Lw3
    go_wp2_with fail
    refine bodyPost_ret (v := .tuple #[.agg #[.int .i64 (redN (an * bd + bn * ad) (ad * bd)), .int .i64 (redD (an * bd + bn * ad) (ad * bd))], .bool (redB (an * bd + bn * ad) (ad * bd))]) (by simp only [results, Try.results83]; go_simp) rfl ⟨rfl, (by repeat' (first | with_reducible exact bl_refl _ | with_reducible apply bl_alloc | with_reducible apply bl_drewN | with_reducible apply bl_drew | with_reducible apply bl_set | with_reducible refine bl_call (by assumption) ?_ | (simp; done) | (simp; omega) | omega))⟩
  · have hf : fsum ⟨an, ad⟩ ⟨bn, bd⟩ = (Fr.zero, false) := by
      unfold fsum Fr.ok; exact if_neg (by simpa using hok)
    rw [hf]
    simp only [Fr.v, Fr.zero]
    clear hf
    cases ha : fracOkB an ad
    · have Ha := Lib.hid ha
      clear ha hok
      go_enter Try.func83, Try.ntmps83
      go_wp2_with fail
      refine (iFracOk_c _ _ _).mono ?_; rintro e w1 ⟨rfl, hb1⟩; rw [Ha.out]; have hzw1_0 : w.heap.size < w1.heap.size := (by have hzz := hb1.size; (try simp at hzz); omega); have hzw1_1 : w.heap.size + 1 < w1.heap.size := (by have hzz := hb1.size; (try simp at hzz); omega); have hzw1_2 : w.heap.size + 1 + 1 < w1.heap.size := (by have hzz := hb1.size; (try simp at hzz); omega); have Lw1 := Locals.call hb1 (L := [(⟨w.heap.size, 0, none⟩, .int .i64 an), (⟨w.heap.size, 1, none⟩, .int .i64 ad), (⟨w.heap.size + 1, 0, none⟩, .int .i64 bn), (⟨w.heap.size + 1, 1, none⟩, .int .i64 bd), (⟨w.heap.size + 1 + 1, 0, none⟩, .int .i64 0), (⟨w.heap.size + 1 + 1, 1, none⟩, .int .i64 0)]) (by simp only [Locals]; repeat' (first | exact trivial | apply And.intro) <;> go_simp); obtain ⟨⟨cw1_0, fw1_0⟩, ⟨cw1_1, fw1_1⟩, ⟨cw1_2, fw1_2⟩, ⟨cw1_3, fw1_3⟩, ⟨cw1_4, fw1_4⟩, ⟨cw1_5, fw1_5⟩, -⟩ := Lw1
      go_wp2_with fail
      refine bodyPost_ret (v := .tuple #[.agg #[.int .i64 0, .int .i64 0], .bool false]) (by simp only [results, Try.results83]; go_simp) rfl ⟨rfl, (by repeat' (first | with_reducible exact bl_refl _ | with_reducible apply bl_alloc | with_reducible apply bl_drewN | with_reducible apply bl_drew | with_reducible apply bl_set | with_reducible refine bl_call (by assumption) ?_ | (simp; done) | (simp; omega) | omega))⟩
    · have hb : fracOkB bn bd = false := by simpa [ha] using hok
      have Ha := Lib.hid ha
      have Hb := Lib.hid hb
      clear ha hb hok
      go_enter Try.func83, Try.ntmps83
      go_wp2_with fail
      refine (iFracOk_c _ _ _).mono ?_; rintro e w1 ⟨rfl, hb1⟩; rw [Ha.out]; have hzw1_0 : w.heap.size < w1.heap.size := (by have hzz := hb1.size; (try simp at hzz); omega); have hzw1_1 : w.heap.size + 1 < w1.heap.size := (by have hzz := hb1.size; (try simp at hzz); omega); have hzw1_2 : w.heap.size + 1 + 1 < w1.heap.size := (by have hzz := hb1.size; (try simp at hzz); omega); have Lw1 := Locals.call hb1 (L := [(⟨w.heap.size, 0, none⟩, .int .i64 an), (⟨w.heap.size, 1, none⟩, .int .i64 ad), (⟨w.heap.size + 1, 0, none⟩, .int .i64 bn), (⟨w.heap.size + 1, 1, none⟩, .int .i64 bd), (⟨w.heap.size + 1 + 1, 0, none⟩, .int .i64 0), (⟨w.heap.size + 1 + 1, 1, none⟩, .int .i64 0)]) (by simp only [Locals]; repeat' (first | exact trivial | apply And.intro) <;> go_simp); obtain ⟨⟨cw1_0, fw1_0⟩, ⟨cw1_1, fw1_1⟩, ⟨cw1_2, fw1_2⟩, ⟨cw1_3, fw1_3⟩, ⟨cw1_4, fw1_4⟩, ⟨cw1_5, fw1_5⟩, -⟩ := Lw1
      go_wp2_with fail
      refine (iFracOk_c _ _ _).mono ?_; rintro e w2 ⟨rfl, hb2⟩; rw [Hb.out]; have hzw2_0 : w.heap.size < w2.heap.size := (by have hzz := hb2.size; (try simp at hzz); omega); have hzw2_1 : w.heap.size + 1 < w2.heap.size := (by have hzz := hb2.size; (try simp at hzz); omega); have hzw2_2 : w.heap.size + 1 + 1 < w2.heap.size := (by have hzz := hb2.size; (try simp at hzz); omega); have Lw2 := Locals.call hb2 (L := [(⟨w.heap.size, 0, none⟩, .int .i64 an), (⟨w.heap.size, 1, none⟩, .int .i64 ad), (⟨w.heap.size + 1, 0, none⟩, .int .i64 bn), (⟨w.heap.size + 1, 1, none⟩, .int .i64 bd), (⟨w.heap.size + 1 + 1, 0, none⟩, .int .i64 0), (⟨w.heap.size + 1 + 1, 1, none⟩, .int .i64 0)]) (by simp only [Locals]; repeat' (first | exact trivial | apply And.intro) <;> go_simp); obtain ⟨⟨cw2_0, fw2_0⟩, ⟨cw2_1, fw2_1⟩, ⟨cw2_2, fw2_2⟩, ⟨cw2_3, fw2_3⟩, ⟨cw2_4, fw2_4⟩, ⟨cw2_5, fw2_5⟩, -⟩ := Lw2
      go_wp2_with fail
      refine bodyPost_ret (v := .tuple #[.agg #[.int .i64 0, .int .i64 0], .bool false]) (by simp only [results, Try.results83]; go_simp) rfl ⟨rfl, (by repeat' (first | with_reducible exact bl_refl _ | with_reducible apply bl_alloc | with_reducible apply bl_drewN | with_reducible apply bl_drew | with_reducible apply bl_set | with_reducible refine bl_call (by assumption) ?_ | (simp; done) | (simp; omega) | omega))⟩

theorem sFracSum_c (a b : Fr) (w : World) :
    Calls Try.prog 81 #[a.v, b.v] w fun e w' => e = .returned (.tuple #[(fsum a b).1.v, .bool (fsum a b).2]) ∧ Below w.heap.size w w' := by
  obtain ⟨an, ad⟩ := a
  obtain ⟨bn, bd⟩ := b
  by_cases hok : fracOkB an ad = true ∧ fracOkB bn bd = true
  · obtain ⟨ha, hb⟩ := hok
    have hs := sumb (a := ⟨an, ad⟩) (b := ⟨bn, bd⟩) ha hb
    simp only at hs
    obtain ⟨h1, h2, h3, h4, h5, h6⟩ := hs
    have hf : fsum ⟨an, ad⟩ ⟨bn, bd⟩ = (⟨redN (an * bd + bn * ad) (ad * bd), redD (an * bd + bn * ad) (ad * bd)⟩, redB (an * bd + bn * ad) (ad * bd)) := by
      simp [fsum, Fr.ok, ha, hb]
    rw [hf]
    simp only [Fr.v]
    have Ha := Lib.hid ha
    have Hb := Lib.hid hb
    clear ha hb hf
    cases hr : fracOkB ((an * bd + bn * ad) / gcdI (an * bd + bn * ad) (ad * bd)) (ad * bd / gcdI (an * bd + bn * ad) (ad * bd))
    all_goals
      have Hr := Lib.hid hr
      clear hr
      go_enter Try.func81, Try.ntmps81
      go_wp2_with fail
      refine (sFracOk_c _ _ _).mono ?_; rintro e w1 ⟨rfl, hb1⟩; rw [Ha.out]; have hzw1_0 : w.heap.size < w1.heap.size := (by have hzz := hb1.size; (try simp at hzz); omega); have hzw1_1 : w.heap.size + 1 < w1.heap.size := (by have hzz := hb1.size; (try simp at hzz); omega); have hzw1_2 : w.heap.size + 1 + 1 < w1.heap.size := (by have hzz := hb1.size; (try simp at hzz); omega); have Lw1 := Locals.call hb1 (L := [(⟨w.heap.size, 0, none⟩, .int .i64 an), (⟨w.heap.size, 1, none⟩, .int .i64 ad), (⟨w.heap.size + 1, 0, none⟩, .int .i64 bn), (⟨w.heap.size + 1, 1, none⟩, .int .i64 bd), (⟨w.heap.size + 1 + 1, 0, none⟩, .int .i64 0), (⟨w.heap.size + 1 + 1, 1, none⟩, .int .i64 0)]) (by simp only [Locals]; repeat' (first | exact trivial | apply And.intro) <;> go_simp); obtain ⟨⟨cw1_0, fw1_0⟩, ⟨cw1_1, fw1_1⟩, ⟨cw1_2, fw1_2⟩, ⟨cw1_3, fw1_3⟩, ⟨cw1_4, fw1_4⟩, ⟨cw1_5, fw1_5⟩, -⟩ := Lw1
      go_wp2_with fail
      refine (sFracOk_c _ _ _).mono ?_; rintro e w2 ⟨rfl, hb2⟩; rw [Hb.out]; have hzw2_0 : w.heap.size < w2.heap.size := (by have hzz := hb2.size; (try simp at hzz); omega); have hzw2_1 : w.heap.size + 1 < w2.heap.size := (by have hzz := hb2.size; (try simp at hzz); omega); have hzw2_2 : w.heap.size + 1 + 1 < w2.heap.size := (by have hzz := hb2.size; (try simp at hzz); omega); have Lw2 := Locals.call hb2 (L := [(⟨w.heap.size, 0, none⟩, .int .i64 an), (⟨w.heap.size, 1, none⟩, .int .i64 ad), (⟨w.heap.size + 1, 0, none⟩, .int .i64 bn), (⟨w.heap.size + 1, 1, none⟩, .int .i64 bd), (⟨w.heap.size + 1 + 1, 0, none⟩, .int .i64 0), (⟨w.heap.size + 1 + 1, 1, none⟩, .int .i64 0)]) (by simp only [Locals]; repeat' (first | exact trivial | apply And.intro) <;> go_simp); obtain ⟨⟨cw2_0, fw2_0⟩, ⟨cw2_1, fw2_1⟩, ⟨cw2_2, fw2_2⟩, ⟨cw2_3, fw2_3⟩, ⟨cw2_4, fw2_4⟩, ⟨cw2_5, fw2_5⟩, -⟩ := Lw2
      go_wp2_with fail
      refine (l31Of_c _ _ _ (by omega) (by omega) (by omega) (by omega)).mono ?_; rintro e w3 ⟨rfl, hb3⟩; have hzw3_0 : w.heap.size < w3.heap.size := (by have hzz := hb3.size; (try simp at hzz); omega); have hzw3_1 : w.heap.size + 1 < w3.heap.size := (by have hzz := hb3.size; (try simp at hzz); omega); have hzw3_2 : w.heap.size + 1 + 1 < w3.heap.size := (by have hzz := hb3.size; (try simp at hzz); omega); have Lw3 := Locals.call hb3 (L := [(⟨w.heap.size, 0, none⟩, .int .i64 an), (⟨w.heap.size, 1, none⟩, .int .i64 ad), (⟨w.heap.size + 1, 0, none⟩, .int .i64 bn), (⟨w.heap.size + 1, 1, none⟩, .int .i64 bd), (⟨w.heap.size + 1 + 1, 0, none⟩, .int .i64 0), (⟨w.heap.size + 1 + 1, 1, none⟩, .int .i64 0)]) (by simp only [Locals]; repeat' (first | exact trivial | apply And.intro) <;> go_simp); obtain ⟨⟨cw3_0, fw3_0⟩, ⟨cw3_1, fw3_1⟩, ⟨cw3_2, fw3_2⟩, ⟨cw3_3, fw3_3⟩, ⟨cw3_4, fw3_4⟩, ⟨cw3_5, fw3_5⟩, -⟩ := Lw3
      go_wp2_with fail
      refine (sFracOk_c _ _ _).mono ?_; rintro e w4 ⟨rfl, hb4⟩; rw [Hr.out]; have hzw4_0 : w.heap.size < w4.heap.size := (by have hzz := hb4.size; (try simp at hzz); omega); have hzw4_1 : w.heap.size + 1 < w4.heap.size := (by have hzz := hb4.size; (try simp at hzz); omega); have hzw4_2 : w.heap.size + 1 + 1 < w4.heap.size := (by have hzz := hb4.size; (try simp at hzz); omega); have hzw4_3 : w3.heap.size < w4.heap.size := (by have hzz := hb4.size; (try simp at hzz); omega); have Lw4 := Locals.call hb4 (L := [(⟨w.heap.size, 0, none⟩, .int .i64 an), (⟨w.heap.size, 1, none⟩, .int .i64 ad), (⟨w.heap.size + 1, 0, none⟩, .int .i64 bn), (⟨w.heap.size + 1, 1, none⟩, .int .i64 bd), (⟨w.heap.size + 1 + 1, 0, none⟩, .int .i64 0), (⟨w.heap.size + 1 + 1, 1, none⟩, .int .i64 0), (⟨w3.heap.size, 0, none⟩, .int .i64 ((an * bd + bn * ad) / gcdI (an * bd + bn * ad) (ad * bd))), (⟨w3.heap.size, 1, none⟩, .int .i64 (ad * bd / gcdI (an * bd + bn * ad) (ad * bd)))]) (by simp only [Locals]; repeat' (first | exact trivial | apply And.intro) <;> go_simp); obtain ⟨⟨cw4_0, fw4_0⟩, ⟨cw4_1, fw4_1⟩, ⟨cw4_2, fw4_2⟩, ⟨cw4_3, fw4_3⟩, ⟨cw4_4, fw4_4⟩, ⟨cw4_5, fw4_5⟩, ⟨cw4_6, fw4_6⟩, ⟨cw4_7, fw4_7⟩, -⟩ := Lw4
      go_wp2_with fail
    · simp only [redN, redD, redB, Hr.out]
      refine bodyPost_ret (v := .tuple #[.agg #[.int .i64 0, .int .i64 0], .bool false]) (by simp only [results, Try.results81]; go_simp) rfl ⟨rfl, (by repeat' (first | with_reducible exact bl_refl _ | with_reducible apply bl_alloc | with_reducible apply bl_drewN | with_reducible apply bl_drew | with_reducible apply bl_set | with_reducible refine bl_call (by assumption) ?_ | (simp; done) | (simp; omega) | omega))⟩
    · simp only [redN, redD, redB, Hr.out]
      refine bodyPost_ret (v := .tuple #[.agg #[.int .i64 ((an * bd + bn * ad) / gcdI (an * bd + bn * ad) (ad * bd)), .int .i64 (ad * bd / gcdI (an * bd + bn * ad) (ad * bd))], .bool true]) (by simp only [results, Try.results81]; go_simp) rfl ⟨rfl, (by repeat' (first | with_reducible exact bl_refl _ | with_reducible apply bl_alloc | with_reducible apply bl_drewN | with_reducible apply bl_drew | with_reducible apply bl_set | with_reducible refine bl_call (by assumption) ?_ | (simp; done) | (simp; omega) | omega))⟩
  · have hf : fsum ⟨an, ad⟩ ⟨bn, bd⟩ = (Fr.zero, false) := by
      unfold fsum Fr.ok; exact if_neg (by simpa using hok)
    rw [hf]
    simp only [Fr.v, Fr.zero]
    clear hf
    cases ha : fracOkB an ad
    · have Ha := Lib.hid ha
      clear ha hok
      go_enter Try.func81, Try.ntmps81
      go_wp2_with fail
      refine (sFracOk_c _ _ _).mono ?_; rintro e w1 ⟨rfl, hb1⟩; rw [Ha.out]; have hzw1_0 : w.heap.size < w1.heap.size := (by have hzz := hb1.size; (try simp at hzz); omega); have hzw1_1 : w.heap.size + 1 < w1.heap.size := (by have hzz := hb1.size; (try simp at hzz); omega); have hzw1_2 : w.heap.size + 1 + 1 < w1.heap.size := (by have hzz := hb1.size; (try simp at hzz); omega); have Lw1 := Locals.call hb1 (L := [(⟨w.heap.size, 0, none⟩, .int .i64 an), (⟨w.heap.size, 1, none⟩, .int .i64 ad), (⟨w.heap.size + 1, 0, none⟩, .int .i64 bn), (⟨w.heap.size + 1, 1, none⟩, .int .i64 bd), (⟨w.heap.size + 1 + 1, 0, none⟩, .int .i64 0), (⟨w.heap.size + 1 + 1, 1, none⟩, .int .i64 0)]) (by simp only [Locals]; repeat' (first | exact trivial | apply And.intro) <;> go_simp); obtain ⟨⟨cw1_0, fw1_0⟩, ⟨cw1_1, fw1_1⟩, ⟨cw1_2, fw1_2⟩, ⟨cw1_3, fw1_3⟩, ⟨cw1_4, fw1_4⟩, ⟨cw1_5, fw1_5⟩, -⟩ := Lw1
      go_wp2_with fail
      refine bodyPost_ret (v := .tuple #[.agg #[.int .i64 0, .int .i64 0], .bool false]) (by simp only [results, Try.results81]; go_simp) rfl ⟨rfl, (by repeat' (first | with_reducible exact bl_refl _ | with_reducible apply bl_alloc | with_reducible apply bl_drewN | with_reducible apply bl_drew | with_reducible apply bl_set | with_reducible refine bl_call (by assumption) ?_ | (simp; done) | (simp; omega) | omega))⟩
    · have hb : fracOkB bn bd = false := by simpa [ha] using hok
      have Ha := Lib.hid ha
      have Hb := Lib.hid hb
      clear ha hb hok
      go_enter Try.func81, Try.ntmps81
      go_wp2_with fail
      refine (sFracOk_c _ _ _).mono ?_; rintro e w1 ⟨rfl, hb1⟩; rw [Ha.out]; have hzw1_0 : w.heap.size < w1.heap.size := (by have hzz := hb1.size; (try simp at hzz); omega); have hzw1_1 : w.heap.size + 1 < w1.heap.size := (by have hzz := hb1.size; (try simp at hzz); omega); have hzw1_2 : w.heap.size + 1 + 1 < w1.heap.size := (by have hzz := hb1.size; (try simp at hzz); omega); have Lw1 := Locals.call hb1 (L := [(⟨w.heap.size, 0, none⟩, .int .i64 an), (⟨w.heap.size, 1, none⟩, .int .i64 ad), (⟨w.heap.size + 1, 0, none⟩, .int .i64 bn), (⟨w.heap.size + 1, 1, none⟩, .int .i64 bd), (⟨w.heap.size + 1 + 1, 0, none⟩, .int .i64 0), (⟨w.heap.size + 1 + 1, 1, none⟩, .int .i64 0)]) (by simp only [Locals]; repeat' (first | exact trivial | apply And.intro) <;> go_simp); obtain ⟨⟨cw1_0, fw1_0⟩, ⟨cw1_1, fw1_1⟩, ⟨cw1_2, fw1_2⟩, ⟨cw1_3, fw1_3⟩, ⟨cw1_4, fw1_4⟩, ⟨cw1_5, fw1_5⟩, -⟩ := Lw1
      go_wp2_with fail
      refine (sFracOk_c _ _ _).mono ?_; rintro e w2 ⟨rfl, hb2⟩; rw [Hb.out]; have hzw2_0 : w.heap.size < w2.heap.size := (by have hzz := hb2.size; (try simp at hzz); omega); have hzw2_1 : w.heap.size + 1 < w2.heap.size := (by have hzz := hb2.size; (try simp at hzz); omega); have hzw2_2 : w.heap.size + 1 + 1 < w2.heap.size := (by have hzz := hb2.size; (try simp at hzz); omega); have Lw2 := Locals.call hb2 (L := [(⟨w.heap.size, 0, none⟩, .int .i64 an), (⟨w.heap.size, 1, none⟩, .int .i64 ad), (⟨w.heap.size + 1, 0, none⟩, .int .i64 bn), (⟨w.heap.size + 1, 1, none⟩, .int .i64 bd), (⟨w.heap.size + 1 + 1, 0, none⟩, .int .i64 0), (⟨w.heap.size + 1 + 1, 1, none⟩, .int .i64 0)]) (by simp only [Locals]; repeat' (first | exact trivial | apply And.intro) <;> go_simp); obtain ⟨⟨cw2_0, fw2_0⟩, ⟨cw2_1, fw2_1⟩, ⟨cw2_2, fw2_2⟩, ⟨cw2_3, fw2_3⟩, ⟨cw2_4, fw2_4⟩, ⟨cw2_5, fw2_5⟩, -⟩ := Lw2
      go_wp2_with fail
      refine bodyPost_ret (v := .tuple #[.agg #[.int .i64 0, .int .i64 0], .bool false]) (by simp only [results, Try.results81]; go_simp) rfl ⟨rfl, (by repeat' (first | with_reducible exact bl_refl _ | with_reducible apply bl_alloc | with_reducible apply bl_drewN | with_reducible apply bl_drew | with_reducible apply bl_set | with_reducible refine bl_call (by assumption) ?_ | (simp; done) | (simp; omega) | omega))⟩

end Go.Proofs.Ytfebbpihcngjoaa
