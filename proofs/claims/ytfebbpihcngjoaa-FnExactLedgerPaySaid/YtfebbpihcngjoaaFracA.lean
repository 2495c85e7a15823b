/- Contracts of the functions on fractions, both sides. -/
import Derived.Test.YtfebbpihcngjoaaKit
namespace Go.Proofs.Ytfebbpihcngjoaa
open Go.RowKit
set_option linter.unusedVariables false

theorem l6In_c (n lo hi : Int) (w : World) :
    Calls Try.prog 59 #[.int .i64 n, .int .i64 lo, .int .i64 hi] w fun e w' => e = .returned (.bool (decide (lo ≤ n ∧ n ≤ hi))) ∧ w = w' := by
  by_cases h1 : lo ≤ n
  all_goals
    go_enter Try.func59, Try.ntmps59
    go_wp2
    go_ret
    exact ⟨by simp <;> omega, rfl⟩

theorem within_c (n lo hi : Int) (w : World) :
    Calls Try.prog 62 #[.int .i64 n, .int .i64 lo, .int .i64 hi] w fun e w' => e = .returned (.bool (decide (lo ≤ n ∧ n ≤ hi))) ∧ w = w' := by
  by_cases h1 : lo ≤ n
  all_goals
    go_enter Try.func62, Try.ntmps62
    go_wp2
    go_ret
    exact ⟨by simp <;> omega, rfl⟩

/-- the greatest common divisor of numbers that are not negative -/
def gcdI (a b : Int) : Int := (Nat.gcd a.toNat b.toNat : Nat)

theorem gcdI_step (a b : Int) (ha : 0 ≤ a) (hb : 0 < b) : gcdI b (a % b) = gcdI a b := by
  unfold gcdI
  have h1 : (a % b).toNat = a.toNat % b.toNat := by
    rw [Int.toNat_emod ha (by omega)]
  rw [h1]
  rw [Nat.gcd_comm a.toNat, Nat.gcd_rec b.toNat a.toNat, Nat.gcd_comm]
theorem gcdI_zero (a : Int) (ha : 0 ≤ a) : gcdI a 0 = a := by
  unfold gcdI; simp; omega

theorem l31Gcd_c (a b : Int) (w : World) (ha : 0 ≤ a) (hb : 0 ≤ b) (ha' : a ≤ 100000000) (hb' : b ≤ 100000000) :
    Calls Try.prog 60 #[.int .i64 a, .int .i64 b] w fun e w' => e = .returned (.int .i64 (gcdI a b)) ∧ w = w' := by
  go_enter Try.func60, Try.ntmps60
  go_wp2
  go_loop [0, 1, 5] (fun x y _ => ∃ x' y' : Int, 0 ≤ x' ∧ 0 ≤ y' ∧ x' ≤ 100000000 ∧ y' ≤ 100000000 ∧ x = .int .i64 x' ∧ y = .int .i64 y' ∧ gcdI x' y' = gcdI a b) (fun _ y _ => (intOf y).toNat)
  case atStart => exact ⟨a, b, ha, hb, ha', hb', rfl, rfl, rfl⟩
  case round =>
    obtain ⟨x, y, hx, hy, hx', hy', rfl, rfl, hg⟩ := hrel
    have Hg := Lib.hid hg
    clear hg
    by_cases hpos : 0 < y
    · have hm1 : 0 ≤ x % y := Int.emod_nonneg _ (by omega)
      have hm2 : x % y < y := Int.emod_lt_of_pos _ hpos
      go_wp2
      go_round
      case rel => exact ⟨y, x % y, by omega, by omega, by omega, by omega, rfl, rfl, by rw [gcdI_step _ _ hx hpos]; exact Hg.out⟩
      case measure => simp [intOf]; omega
    · obtain rfl : y = 0 := by omega
      go_wp2
      go_ret
      exact ⟨ret_i (by rw [← Hg.out, gcdI_zero _ hx]), rfl⟩

theorem divisor_c (a b : Int) (w : World) (ha : 0 ≤ a) (hb : 0 ≤ b) (ha' : a ≤ 100000000) (hb' : b ≤ 100000000) :
    Calls Try.prog 63 #[.int .i64 a, .int .i64 b] w fun e w' => e = .returned (.int .i64 (gcdI a b)) ∧ ∃ n, w' = w.drewN n := by
  go_enter Try.func63, Try.ntmps63
  go_wp2
  go_loopw [0, 1] (fun x y wr => ∃ x' y' : Int, 0 ≤ x' ∧ 0 ≤ y' ∧ x' ≤ 100000000 ∧ y' ≤ 100000000 ∧ x = .int .i64 x' ∧ y = .int .i64 y' ∧ gcdI x' y' = gcdI a b ∧ ∃ n, wr = w.drewN n) (fun _ y _ => (intOf y).toNat)
  case atStart => exact ⟨a, b, ha, hb, ha', hb', rfl, rfl, rfl, 0, by simp [World.drewN]⟩
  case round =>
    obtain ⟨x, y, hx, hy, hx', hy', rfl, rfl, hg, n, hn⟩ := hrel
    have Hg := Lib.hid hg
    have Hn := Lib.hid hn
    clear hg hn
    by_cases hpos : 0 < y
    · have hm1 : 0 ≤ x % y := Int.emod_nonneg _ (by omega)
      have hm2 : x % y < y := Int.emod_lt_of_pos _ hpos
      go_wp2
      go_quiet (fail)
      go_roundw
      case rel => exact ⟨_, _, _, _, _, _, _, _, ⟨y, x % y, by omega, by omega, by omega, by omega, rfl, rfl, by rw [gcdI_step _ _ hx hpos]; exact Hg.out, n + nq, by rw [Hn.out, World.drewN_drewN]⟩, rfl⟩
      case measure => simp [intOf]; omega
    · obtain rfl : y = 0 := by omega
      go_wp2
      go_ret
      exact ⟨ret_i (by rw [← Hg.out, gcdI_zero _ hx]), n, Hn.out⟩

def fracOkB (n d : Int) : Bool := decide (0 ≤ n ∧ n ≤ 999) && decide (1 ≤ d ∧ d ≤ 60) && (gcdI n d == 1)


theorem fracOkB_eq (n d : Int) : fracOkB n d = (decide (0 ≤ n ∧ n ≤ 999) && decide (1 ≤ d ∧ d ≤ 60) && (gcdI n d == 1)) := rfl

theorem sFracOk_c (n d : Int) (w : World) :
    Calls Try.prog 27 #[.agg #[.int .i64 n, .int .i64 d]] w fun e w' => e = .returned (.bool (fracOkB n d)) ∧ Below w.heap.size w w' := by
  by_cases h1 : 0 ≤ n ∧ n ≤ 999
  · obtain ⟨h1a, h1b⟩ := h1
    by_cases h2 : 1 ≤ d ∧ d ≤ 60
    · obtain ⟨h2a, h2b⟩ := h2
      go_enter Try.func27, Try.ntmps27
      go_wp2_with (first | (go_at_call 59; refine (l6In_c _ _ _ _).mono ?_; rintro e w' ⟨rfl, rfl⟩) | (go_at_call 60; refine (l31Gcd_c _ _ _ (by omega) (by omega) (by omega) (by omega)).mono ?_; rintro e w' ⟨rfl, rfl⟩))
      go_ret
      exact ⟨ret_b (by simp [fracOkB_eq, h1a, h1b, h2a, h2b]), (Below.refl _ _).alloc (Nat.le_refl _) _⟩
    · have h2c : decide (1 ≤ d ∧ d ≤ 60) = false := by simp; omega
      go_enter Try.func27, Try.ntmps27
      go_wp2_with (first | (go_at_call 59; refine (l6In_c _ _ _ _).mono ?_; rintro e w' ⟨rfl, rfl⟩) | (go_at_call 60; refine (l31Gcd_c _ _ _ (by omega) (by omega) (by omega) (by omega)).mono ?_; rintro e w' ⟨rfl, rfl⟩))
      go_ret
      exact ⟨ret_b (by simp only [fracOkB_eq, h2c]; simp), (Below.refl _ _).alloc (Nat.le_refl _) _⟩
  · have h1c : decide (0 ≤ n ∧ n ≤ 999) = false := by simp; omega
    go_enter Try.func27, Try.ntmps27
    go_wp2_with (first | (go_at_call 59; refine (l6In_c _ _ _ _).mono ?_; rintro e w' ⟨rfl, rfl⟩) | (go_at_call 60; refine (l31Gcd_c _ _ _ (by omega) (by omega) (by omega) (by omega)).mono ?_; rintro e w' ⟨rfl, rfl⟩))
    go_ret
    exact ⟨ret_b (by simp only [fracOkB_eq, h1c]; simp), (Below.refl _ _).alloc (Nat.le_refl _) _⟩

theorem iFracOk_c (n d : Int) (w : World) :
    Calls Try.prog 31 #[.agg #[.int .i64 n, .int .i64 d]] w fun e w' => e = .returned (.bool (fracOkB n d)) ∧ Below w.heap.size w w' := by
  by_cases h1 : 0 ≤ n ∧ n ≤ 999
  · obtain ⟨h1a, h1b⟩ := h1
    by_cases h2 : 1 ≤ d ∧ d ≤ 60
    · obtain ⟨h2a, h2b⟩ := h2
      go_enter Try.func31, Try.ntmps31
      go_wp2_with (first | (go_at_call 62; refine (within_c _ _ _ _).mono ?_; rintro e w' ⟨rfl, rfl⟩) | (go_at_call 63; refine (divisor_c _ _ _ (by omega) (by omega) (by omega) (by omega)).mono ?_; rintro e w' ⟨rfl, q, rfl⟩))
      go_ret
      exact ⟨ret_b (by simp [fracOkB_eq, h1a, h1b, h2a, h2b]), below_drewN ((Below.refl _ _).alloc (Nat.le_refl _) _) _⟩
    · have h2c : decide (1 ≤ d ∧ d ≤ 60) = false := by simp; omega
      go_enter Try.func31, Try.ntmps31
      go_wp2_with (first | (go_at_call 62; refine (within_c _ _ _ _).mono ?_; rintro e w' ⟨rfl, rfl⟩))
      go_ret
      exact ⟨ret_b (by simp only [fracOkB_eq, h2c]; simp), (Below.refl _ _).alloc (Nat.le_refl _) _⟩
  · have h1c : decide (0 ≤ n ∧ n ≤ 999) = false := by simp; omega
    go_enter Try.func31, Try.ntmps31
    go_wp2_with (first | (go_at_call 62; refine (within_c _ _ _ _).mono ?_; rintro e w' ⟨rfl, rfl⟩))
    go_ret
    exact ⟨ret_b (by simp only [fracOkB_eq, h1c]; simp), (Below.refl _ _).alloc (Nat.le_refl _) _⟩

end Go.Proofs.Ytfebbpihcngjoaa
