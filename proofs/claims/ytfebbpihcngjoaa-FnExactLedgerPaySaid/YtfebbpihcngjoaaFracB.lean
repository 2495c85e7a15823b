/- Contracts of the functions on fractions, continued. -/
import Derived.Test.YtfebbpihcngjoaaFracA
namespace Go.Proofs.Ytfebbpihcngjoaa
open Go.RowKit
set_option linter.unusedVariables false
set_option linter.unusedSimpArgs false

theorem gcdI_pos (a b : Int) (ha : 0 ≤ a) (hb : 1 ≤ b) : 1 ≤ gcdI a b ∧ gcdI a b ≤ b := by
  unfold gcdI
  have h1 : 0 < Nat.gcd a.toNat b.toNat := Nat.gcd_pos_of_pos_right _ (by omega)
  have h2 : Nat.gcd a.toNat b.toNat ≤ b.toNat := Nat.gcd_le_right _ (by omega)
  omega

theorem l31Of_c (a b : Int) (w : World) (ha : 0 ≤ a) (hb : 1 ≤ b) (ha' : a ≤ 100000000) (hb' : b ≤ 100000000) :
    Calls Try.prog 92 #[.int .i64 a, .int .i64 b] w fun e w' => e = .returned (.agg #[.int .i64 (a / gcdI a b), .int .i64 (b / gcdI a b)]) ∧ Below w.heap.size w w' := by
  obtain ⟨hg1, hg2⟩ := gcdI_pos a b ha hb
  have hg3 : gcdI a b ≤ 100000000 := by omega
  have hd1 : 0 ≤ a / gcdI a b := Int.ediv_nonneg ha (by omega)
  have hd2 : a / gcdI a b ≤ a := Int.ediv_le_self _ ha
  have hd3 : 0 ≤ b / gcdI a b := Int.ediv_nonneg (by omega) (by omega)
  have hd4 : b / gcdI a b ≤ b := Int.ediv_le_self _ (by omega)
  generalize hgg : gcdI a b = g at *
  have Hg := Lib.hid hgg
  clear hgg
  go_enter Try.func92, Try.ntmps92
  go_wp2_with (first | (go_at_call 60; refine (l31Gcd_c _ _ _ (by omega) (by omega) (by omega) (by omega)).mono ?_; rintro e w' ⟨rfl, rfl⟩; rw [Hg.out]))
  go_region
  go_wp2
  refine bodyPost_ret (v := .agg #[.int .i64 (a / g), .int .i64 (b / g)]) (by simp [results, Try.results92, go_sem]) rfl ⟨rfl, (by repeat' (first | with_reducible exact bl_refl _ | with_reducible apply bl_alloc | with_reducible apply bl_drewN | with_reducible apply bl_drew | with_reducible apply bl_set | with_reducible refine bl_call (by assumption) ?_ | (simp; done) | (simp; omega) | omega))⟩

/-- the quotient in lowest terms, if it is a valid fraction -/
def redN (a b : Int) : Int := if fracOkB (a / gcdI a b) (b / gcdI a b) then a / gcdI a b else 0
def redD (a b : Int) : Int := if fracOkB (a / gcdI a b) (b / gcdI a b) then b / gcdI a b else 0
def redB (a b : Int) : Bool := fracOkB (a / gcdI a b) (b / gcdI a b)

theorem reduced_c (a b : Int) (w : World) (ha : 0 ≤ a) (hb : 1 ≤ b) (ha' : a ≤ 100000000) (hb' : b ≤ 100000000) :
    Calls Try.prog 94 #[.int .i64 a, .int .i64 b] w fun e w' => e = .returned (.tuple #[.agg #[.int .i64 (redN a b), .int .i64 (redD a b)], .bool (redB a b)]) ∧ Below w.heap.size w w' := by
  obtain ⟨hg1, hg2⟩ := gcdI_pos a b ha hb
  have hg3 : gcdI a b ≤ 100000000 := by omega
  have hd1 : 0 ≤ a / gcdI a b := Int.ediv_nonneg ha (by omega)
  have hd2 : a / gcdI a b ≤ a := Int.ediv_le_self _ ha
  have hd3 : 0 ≤ b / gcdI a b := Int.ediv_nonneg (by omega) (by omega)
  have hd4 : b / gcdI a b ≤ b := Int.ediv_le_self _ (by omega)
  unfold redN redD redB
  generalize hgg : gcdI a b = g at *
  have Hg := Lib.hid hgg
  clear hgg
  cases hok : fracOkB (a / g) (b / g)
  all_goals
    have Hok := Lib.hid hok
    clear hok
    go_enter Try.func94, Try.ntmps94
    go_wp2_with (first | (go_at_call 63; refine (divisor_c _ _ _ (by omega) (by omega) (by omega) (by omega)).mono ?_; rintro e w' ⟨rfl, q, rfl⟩; rw [Hg.out]))
    go_region
    go_wp2_with (first | (go_at_call 31; refine (iFracOk_c _ _ _).mono ?_; rintro e w1 ⟨rfl, hb1⟩; rw [Hok.out]; obtain ⟨hc, hf⟩ := bcell hb1; have hz := hb1.size; simp at hz))
  · refine bodyPost_ret (v := .tuple #[.agg #[.int .i64 0, .int .i64 0], .bool false]) (by simp (config := { maxDischargeDepth := 6 }) [results, Try.results94, go_sem, hc, hz]) rfl ⟨rfl, (by repeat' (first | with_reducible exact bl_refl _ | with_reducible apply bl_alloc | with_reducible apply bl_drewN | with_reducible apply bl_drew | with_reducible apply bl_set | with_reducible refine bl_call (by assumption) ?_ | (simp; done) | (simp; omega) | omega))⟩
  · refine bodyPost_ret (v := .tuple #[.agg #[.int .i64 (a / g), .int .i64 (b / g)], .bool true]) (by simp (config := { maxDischargeDepth := 6 }) [results, Try.results94, go_sem, hc, hz]) rfl ⟨rfl, (by repeat' (first | with_reducible exact bl_refl _ | with_reducible apply bl_alloc | with_reducible apply bl_drewN | with_reducible apply bl_drew | with_reducible apply bl_set | with_reducible refine bl_call (by assumption) ?_ | (simp; done) | (simp; omega) | omega))⟩

end Go.Proofs.Ytfebbpihcngjoaa
