/- The law's helpers over ledgers. -/
import Derived.Test.YtfebbpihcngjoaaLaw2
namespace Go.Proofs.Ytfebbpihcngjoaa
open Go.RowKit
set_option linter.unusedVariables false
set_option linter.unusedSimpArgs false

theorem szLedger_c (cn cd : Int) (a : Option Addr) (n cap : Nat) (s : Int) (w : World) (h0 : 0 ≤ s) (h1 : s ≤ 1000000000000) (hn : n ≤ 9223372036854775807) :
    Calls Try.prog 6 #[.agg #[.int .i64 cn, .int .i64 cd, .slice a n cap], .int .i64 s] w fun e w' => e = .returned (.int .i64 (if s < n then -1 else s - n)) ∧ Below w.heap.size w w' := by
  by_cases h : s < n
  · rw [if_pos h]
    go_enter Try.func6, Try.ntmps6
    go_wp2_with fail
    refine (szFracS_c a n cap s _ h0 h1 hn).mono ?_; rintro e w1 ⟨rfl, rfl⟩; rw [if_pos h]
    go_wp2_with fail
    go_ret
    exact ⟨rfl, (by repeat' (first | with_reducible exact bl_refl _ | with_reducible apply bl_alloc | with_reducible apply bl_drewN | with_reducible apply bl_drew | with_reducible apply bl_set | with_reducible refine bl_call (by assumption) ?_ | (simp; done) | (simp; omega) | omega))⟩
  · rw [if_neg h]
    go_enter Try.func6, Try.ntmps6
    go_wp2_with fail
    refine (szFracS_c a n cap s _ h0 h1 hn).mono ?_; rintro e w1 ⟨rfl, rfl⟩; rw [if_neg (by omega)]
    go_wp2_with fail
    go_ret
    exact ⟨rfl, (by repeat' (first | with_reducible exact bl_refl _ | with_reducible apply bl_alloc | with_reducible apply bl_drewN | with_reducible apply bl_drew | with_reducible apply bl_set | with_reducible refine bl_call (by assumption) ?_ | (simp; done) | (simp; omega) | omega))⟩

set_option maxHeartbeats 2000000 in
theorem toLedger_c (cn cd : Int) (v : Value) (fs : List Fr) (w : World) (hI : FracsAt w v fs) (hn : fs.length ≤ 2000000) :
    Calls Try.prog 8 #[.agg #[.int .i64 cn, .int .i64 cd, v]] w fun e w' => ∃ a cap, e = .returned (.agg #[.int .i64 cn, .int .i64 cd, .slice a fs.length cap]) ∧ OwnFr w' w.heap.size (.slice a fs.length cap) fs ∧ Below w.heap.size w w' := by
  obtain ⟨a, cap, rfl, hcap, h⟩ := id hI
  have hnr : ∀ Y, Below w.heap.size w Y → FracsAt Y (.slice a fs.length cap) fs := fun Y hY => hI.below hY
  have Hnr := Lib.hid hnr
  clear hI hnr h
  go_enter Try.func8, Try.ntmps8
  go_wp2_with fail
  refine (toFrac_c _ _ _).mono ?_; rintro e w1 ⟨rfl, hb1⟩; have hzw1_0 : w.heap.size < w1.heap.size := (by have hzz := hb1.size; (try simp at hzz); omega); have hzw1_1 : w.heap.size + 1 < w1.heap.size := (by have hzz := hb1.size; (try simp at hzz); omega); have hzw1_2 : w.heap.size + 1 + 1 < w1.heap.size := (by have hzz := hb1.size; (try simp at hzz); omega); have Lw1 := Locals.call hb1 (L := [(⟨w.heap.size, 0, none⟩, .int .i64 cn), (⟨w.heap.size, 1, none⟩, .int .i64 cd), (⟨w.heap.size, 2, none⟩, .slice a fs.length cap), (⟨w.heap.size + 1, 0, none⟩, .int .i64 0), (⟨w.heap.size + 1, 1, none⟩, .int .i64 0), (⟨w.heap.size + 1, 2, none⟩, .slice none 0 0), (⟨w.heap.size + 1 + 1, 0, none⟩, .int .i64 0), (⟨w.heap.size + 1 + 1, 1, none⟩, .int .i64 0), (⟨w.heap.size + 1 + 1, 2, none⟩, .slice none 0 0)]) (by simp only [Locals]; repeat' (first | exact trivial | apply And.intro) <;> go_simp); obtain ⟨⟨cw1_0, fw1_0⟩, ⟨cw1_1, fw1_1⟩, ⟨cw1_2, fw1_2⟩, ⟨cw1_3, fw1_3⟩, ⟨cw1_4, fw1_4⟩, ⟨cw1_5, fw1_5⟩, ⟨cw1_6, fw1_6⟩, ⟨cw1_7, fw1_7⟩, ⟨cw1_8, fw1_8⟩, -⟩ := Lw1
  go_wp2_with fail
  refine (toFracS_c _ fs _ (Hnr.out _ (by repeat' (first | with_reducible exact bl_refl _ | with_reducible apply bl_alloc | with_reducible apply bl_drewN | with_reducible apply bl_drew | with_reducible apply bl_set | with_reducible refine bl_call (by assumption) ?_ | (simp; done) | (simp; omega) | omega))) hn).mono ?_; rintro e w2 ⟨v2, rfl, hown2, hb2⟩; have hzw2_0 : w.heap.size < w2.heap.size := (by have hzz := hb2.size; (try simp at hzz); omega); have hzw2_1 : w.heap.size + 1 < w2.heap.size := (by have hzz := hb2.size; (try simp at hzz); omega); have hzw2_2 : w.heap.size + 1 + 1 < w2.heap.size := (by have hzz := hb2.size; (try simp at hzz); omega); have Lw2 := Locals.call hb2 (L := [(⟨w.heap.size, 0, none⟩, .int .i64 cn), (⟨w.heap.size, 1, none⟩, .int .i64 cd), (⟨w.heap.size, 2, none⟩, .slice a fs.length cap), (⟨w.heap.size + 1, 0, none⟩, .int .i64 0), (⟨w.heap.size + 1, 1, none⟩, .int .i64 0), (⟨w.heap.size + 1, 2, none⟩, .slice none 0 0), (⟨w.heap.size + 1 + 1, 0, none⟩, .int .i64 cn), (⟨w.heap.size + 1 + 1, 1, none⟩, .int .i64 cd), (⟨w.heap.size + 1 + 1, 2, none⟩, .slice none 0 0)]) (by simp only [Locals]; repeat' (first | exact trivial | apply And.intro) <;> go_simp); obtain ⟨⟨cw2_0, fw2_0⟩, ⟨cw2_1, fw2_1⟩, ⟨cw2_2, fw2_2⟩, ⟨cw2_3, fw2_3⟩, ⟨cw2_4, fw2_4⟩, ⟨cw2_5, fw2_5⟩, ⟨cw2_6, fw2_6⟩, ⟨cw2_7, fw2_7⟩, ⟨cw2_8, fw2_8⟩, -⟩ := Lw2
  obtain ⟨a2, cap2, rfl, h2l, h2n⟩ := hown2.form
  have Hown2 := Lib.hid hown2
  clear hown2
  go_wp2_with fail
  refine bodyPost_ret (v := .agg #[.int .i64 cn, .int .i64 cd, .slice a2 fs.length cap2]) (by simp only [results, Try.results8]; go_simp) rfl ⟨_, _, rfl, ((((Hown2.out.set (by first | omega | (simp; done) | (simp; omega)) _).set (by first | omega | (simp; done) | (simp; omega)) _).set (by first | omega | (simp; done) | (simp; omega)) _).set (by first | omega | (simp; done) | (simp; omega)) _).low (by first | omega | (simp; done) | (simp; omega)), (by repeat' (first | with_reducible exact bl_refl _ | with_reducible apply bl_alloc | with_reducible apply bl_drewN | with_reducible apply bl_drew | with_reducible apply bl_set | with_reducible refine bl_call (by assumption) ?_ | (simp; done) | (simp; omega) | omega))⟩

set_option maxHeartbeats 2000000 in
theorem eqLedger_c (cn cd en ed : Int) (v1 v2 : Value) (fs gs : List Fr) (w : World) (h1 : FracsAt w v1 fs) (h2 : FracsAt w v2 gs) (hn : fs.length ≤ 4000000) :
    Calls Try.prog 11 #[.agg #[.int .i64 cn, .int .i64 cd, v1], .agg #[.int .i64 en, .int .i64 ed, v2]] w fun e w' => e = .returned (.bool (Fr.eqb ⟨cn, cd⟩ ⟨en, ed⟩ && eqFs fs gs)) ∧ Below w.heap.size w w' := by
  obtain ⟨a1, cap1, rfl, hcap1, _⟩ := id h1
  obtain ⟨a2, cap2, rfl, hcap2, _⟩ := id h2
  have hnr1 : ∀ Y, Below w.heap.size w Y → FracsAt Y (.slice a1 fs.length cap1) fs := fun Y hY => h1.below hY
  have hnr2 : ∀ Y, Below w.heap.size w Y → FracsAt Y (.slice a2 gs.length cap2) gs := fun Y hY => h2.below hY
  have Hn1 := Lib.hid hnr1
  have Hn2 := Lib.hid hnr2
  clear h1 h2 hnr1 hnr2
  cases hc : Fr.eqb ⟨cn, cd⟩ ⟨en, ed⟩
  · have Hc := Lib.hid hc
    clear hc
    go_enter Try.func11, Try.ntmps11
    go_wp2_with fail
    refine (eqFrac_c ⟨cn, cd⟩ ⟨en, ed⟩ _).mono ?_; rintro e w1 ⟨rfl, hb1⟩; rw [Hc.out]; have hzw1_0 : w.heap.size < w1.heap.size := (by have hzz := hb1.size; (try simp at hzz); omega); have hzw1_1 : w.heap.size + 1 < w1.heap.size := (by have hzz := hb1.size; (try simp at hzz); omega); have Lw1 := Locals.call hb1 (L := [(⟨w.heap.size, 0, none⟩, .int .i64 cn), (⟨w.heap.size, 1, none⟩, .int .i64 cd), (⟨w.heap.size, 2, none⟩, .slice a1 fs.length cap1), (⟨w.heap.size + 1, 0, none⟩, .int .i64 en), (⟨w.heap.size + 1, 1, none⟩, .int .i64 ed), (⟨w.heap.size + 1, 2, none⟩, .slice a2 gs.length cap2)]) (by simp only [Locals]; repeat' (first | exact trivial | apply And.intro) <;> go_simp); obtain ⟨⟨cw1_0, fw1_0⟩, ⟨cw1_1, fw1_1⟩, ⟨cw1_2, fw1_2⟩, ⟨cw1_3, fw1_3⟩, ⟨cw1_4, fw1_4⟩, ⟨cw1_5, fw1_5⟩, -⟩ := Lw1
    go_wp2_with fail
    go_ret
    exact ⟨rfl, (by repeat' (first | with_reducible exact bl_refl _ | with_reducible apply bl_alloc | with_reducible apply bl_drewN | with_reducible apply bl_drew | with_reducible apply bl_set | with_reducible refine bl_call (by assumption) ?_ | (simp; done) | (simp; omega) | omega))⟩
  · have Hc := Lib.hid hc
    clear hc
    cases hs : eqFs fs gs
    · have Hs := Lib.hid hs
      clear hs
      go_enter Try.func11, Try.ntmps11
      go_wp2_with fail
      refine (eqFrac_c ⟨cn, cd⟩ ⟨en, ed⟩ _).mono ?_; rintro e w1 ⟨rfl, hb1⟩; rw [Hc.out]; have hzw1_0 : w.heap.size < w1.heap.size := (by have hzz := hb1.size; (try simp at hzz); omega); have hzw1_1 : w.heap.size + 1 < w1.heap.size := (by have hzz := hb1.size; (try simp at hzz); omega); have Lw1 := Locals.call hb1 (L := [(⟨w.heap.size, 0, none⟩, .int .i64 cn), (⟨w.heap.size, 1, none⟩, .int .i64 cd), (⟨w.heap.size, 2, none⟩, .slice a1 fs.length cap1), (⟨w.heap.size + 1, 0, none⟩, .int .i64 en), (⟨w.heap.size + 1, 1, none⟩, .int .i64 ed), (⟨w.heap.size + 1, 2, none⟩, .slice a2 gs.length cap2)]) (by simp only [Locals]; repeat' (first | exact trivial | apply And.intro) <;> go_simp); obtain ⟨⟨cw1_0, fw1_0⟩, ⟨cw1_1, fw1_1⟩, ⟨cw1_2, fw1_2⟩, ⟨cw1_3, fw1_3⟩, ⟨cw1_4, fw1_4⟩, ⟨cw1_5, fw1_5⟩, -⟩ := Lw1
      go_wp2_with fail
      refine (eqFracS_c _ _ fs gs _ (Hn1.out _ (by repeat' (first | with_reducible exact bl_refl _ | with_reducible apply bl_alloc | with_reducible apply bl_drewN | with_reducible apply bl_drew | with_reducible apply bl_set | with_reducible refine bl_call (by assumption) ?_ | (simp; done) | (simp; omega) | omega))) (Hn2.out _ (by repeat' (first | with_reducible exact bl_refl _ | with_reducible apply bl_alloc | with_reducible apply bl_drewN | with_reducible apply bl_drew | with_reducible apply bl_set | with_reducible refine bl_call (by assumption) ?_ | (simp; done) | (simp; omega) | omega))) hn).mono ?_; rintro e w2 ⟨rfl, hb2⟩; rw [Hs.out]; have hzw2_0 : w.heap.size < w2.heap.size := (by have hzz := hb2.size; (try simp at hzz); omega); have hzw2_1 : w.heap.size + 1 < w2.heap.size := (by have hzz := hb2.size; (try simp at hzz); omega); have Lw2 := Locals.call hb2 (L := [(⟨w.heap.size, 0, none⟩, .int .i64 cn), (⟨w.heap.size, 1, none⟩, .int .i64 cd), (⟨w.heap.size, 2, none⟩, .slice a1 fs.length cap1), (⟨w.heap.size + 1, 0, none⟩, .int .i64 en), (⟨w.heap.size + 1, 1, none⟩, .int .i64 ed), (⟨w.heap.size + 1, 2, none⟩, .slice a2 gs.length cap2)]) (by simp only [Locals]; repeat' (first | exact trivial | apply And.intro) <;> go_simp); obtain ⟨⟨cw2_0, fw2_0⟩, ⟨cw2_1, fw2_1⟩, ⟨cw2_2, fw2_2⟩, ⟨cw2_3, fw2_3⟩, ⟨cw2_4, fw2_4⟩, ⟨cw2_5, fw2_5⟩, -⟩ := Lw2
      go_wp2_with fail
      go_ret
      exact ⟨rfl, (by repeat' (first | with_reducible exact bl_refl _ | with_reducible apply bl_alloc | with_reducible apply bl_drewN | with_reducible apply bl_drew | with_reducible apply bl_set | with_reducible refine bl_call (by assumption) ?_ | (simp; done) | (simp; omega) | omega))⟩
    · have Hs := Lib.hid hs
      clear hs
      go_enter Try.func11, Try.ntmps11
      go_wp2_with fail
      refine (eqFrac_c ⟨cn, cd⟩ ⟨en, ed⟩ _).mono ?_; rintro e w1 ⟨rfl, hb1⟩; rw [Hc.out]; have hzw1_0 : w.heap.size < w1.heap.size := (by have hzz := hb1.size; (try simp at hzz); omega); have hzw1_1 : w.heap.size + 1 < w1.heap.size := (by have hzz := hb1.size; (try simp at hzz); omega); have Lw1 := Locals.call hb1 (L := [(⟨w.heap.size, 0, none⟩, .int .i64 cn), (⟨w.heap.size, 1, none⟩, .int .i64 cd), (⟨w.heap.size, 2, none⟩, .slice a1 fs.length cap1), (⟨w.heap.size + 1, 0, none⟩, .int .i64 en), (⟨w.heap.size + 1, 1, none⟩, .int .i64 ed), (⟨w.heap.size + 1, 2, none⟩, .slice a2 gs.length cap2)]) (by simp only [Locals]; repeat' (first | exact trivial | apply And.intro) <;> go_simp); obtain ⟨⟨cw1_0, fw1_0⟩, ⟨cw1_1, fw1_1⟩, ⟨cw1_2, fw1_2⟩, ⟨cw1_3, fw1_3⟩, ⟨cw1_4, fw1_4⟩, ⟨cw1_5, fw1_5⟩, -⟩ := Lw1
      go_wp2_with fail
      refine (eqFracS_c _ _ fs gs _ (Hn1.out _ (by repeat' (first | with_reducible exact bl_refl _ | with_reducible apply bl_alloc | with_reducible apply bl_drewN | with_reducible apply bl_drew | with_reducible apply bl_set | with_reducible refine bl_call (by assumption) ?_ | (simp; done) | (simp; omega) | omega))) (Hn2.out _ (by repeat' (first | with_reducible exact bl_refl _ | with_reducible apply bl_alloc | with_reducible apply bl_drewN | with_reducible apply bl_drew | with_reducible apply bl_set | with_reducible refine bl_call (by assumption) ?_ | (simp; done) | (simp; omega) | omega))) hn).mono ?_; rintro e w2 ⟨rfl, hb2⟩; rw [Hs.out]; have hzw2_0 : w.heap.size < w2.heap.size := (by have hzz := hb2.size; (try simp at hzz); omega); have hzw2_1 : w.heap.size + 1 < w2.heap.size := (by have hzz := hb2.size; (try simp at hzz); omega); have Lw2 := Locals.call hb2 (L := [(⟨w.heap.size, 0, none⟩, .int .i64 cn), (⟨w.heap.size, 1, none⟩, .int .i64 cd), (⟨w.heap.size, 2, none⟩, .slice a1 fs.length cap1), (⟨w.heap.size + 1, 0, none⟩, .int .i64 en), (⟨w.heap.size + 1, 1, none⟩, .int .i64 ed), (⟨w.heap.size + 1, 2, none⟩, .slice a2 gs.length cap2)]) (by simp only [Locals]; repeat' (first | exact trivial | apply And.intro) <;> go_simp); obtain ⟨⟨cw2_0, fw2_0⟩, ⟨cw2_1, fw2_1⟩, ⟨cw2_2, fw2_2⟩, ⟨cw2_3, fw2_3⟩, ⟨cw2_4, fw2_4⟩, ⟨cw2_5, fw2_5⟩, -⟩ := Lw2
      go_wp2_with fail
      go_ret
      exact ⟨rfl, (by repeat' (first | with_reducible exact bl_refl _ | with_reducible apply bl_alloc | with_reducible apply bl_drewN | with_reducible apply bl_drew | with_reducible apply bl_set | with_reducible refine bl_call (by assumption) ?_ | (simp; done) | (simp; omega) | omega))⟩



set_option maxHeartbeats 2000000 in
theorem markLedger_c (cn cd : Int) (a : Option Addr) (cap : Nat) (L₀ : List Fr) (m : Int) (B : Nat) (w : World) (h : OwnFr w B (.slice a L₀.length cap) L₀) (hB : B ≤ w.heap.size) (hn : L₀.length ≤ 4000000) (hm0 : 0 ≤ m) (hm1 : m ≤ 1000000000000) :
    Calls Try.prog 12 #[.agg #[.int .i64 cn, .int .i64 cd, .slice a L₀.length cap], .int .i64 m] w fun e w' => e = .returned (.int .i64 (m + 2 * (L₀.length : Int))) ∧ OwnFr w' B (.slice a L₀.length cap) (markF m L₀.length) ∧ Below B w w' ∧
      w.heap.size ≤ w'.heap.size ∧ (∀ p : Addr, p.block < w.heap.size → (L₀ ≠ [] → (Value.slice a L₀.length cap).ownBlock ≠ some p.block) → w'.cell? p = w.cell? p ∧ w'.frozen? p = w.frozen? p) := by
  have h' := h.alloc (.cells #[.int .i64 cn, .int .i64 cd, .slice a L₀.length cap] 31)
  have Hown := Lib.hid h'
  have hbb : Below B w (w.alloc (.cells #[.int .i64 cn, .int .i64 cd, .slice a L₀.length cap] 31)) := (Below.refl B w).alloc hB _
  have Hbb := Lib.hid hbb
  clear h h' hbb
  go_enter Try.func12, Try.ntmps12
  go_wp2_with fail
  refine (markFracS_c _ L₀ m B _ Hown.out hn hm0 hm1).mono ?_; rintro e w1 ⟨rfl, hown1, hb1, ho1⟩
  have Hown1 := Lib.hid hown1
  have Hb1 := Lib.hid hb1
  have Ho1 := Lib.hid ho1
  clear hown1 hb1 ho1
  go_wp2_with fail
  go_ret
  refine ⟨rfl, Hown1.out, Hbb.out.trans Hb1.out, ?_, fun p hp hne => ?_⟩
  · have := Ho1.out.1; simp at this; omega
  · obtain ⟨q1, q2⟩ := Ho1.out.2 p hne
    have hbl := bl_alloc (bl_refl w) (.cells #[.int .i64 cn, .int .i64 cd, .slice a L₀.length cap] 31)
    exact ⟨q1.trans (hbl.cell hp), q2.trans (hbl.frozen hp)⟩

set_option maxHeartbeats 2000000 in
theorem heldLedger_c (cn cd : Int) (v : Value) (n : Nat) (m : Int) (w : World) (h : FracsAt w v (markF m n)) (hn : n ≤ 4000000) (hm0 : 0 ≤ m) (hm1 : m ≤ 1000000000000) :
    Calls Try.prog 13 #[.agg #[.int .i64 cn, .int .i64 cd, v], .int .i64 m] w fun e w' => e = .returned (.int .i64 (m + 2 * (n : Int))) ∧ Below w.heap.size w w' := by
  obtain ⟨a, cap, rfl, hcap, _⟩ := id h
  have hnr : ∀ Y, Below w.heap.size w Y → FracsAt Y (.slice a (markF m n).length cap) (markF m n) := fun Y hY => h.below hY
  have Hnr := Lib.hid hnr
  clear h hnr
  rw [markF_length] at *
  go_enter Try.func13, Try.ntmps13
  go_wp2_with fail
  refine (heldFracS_c _ n m _ (Hnr.out _ (by repeat' (first | with_reducible exact bl_refl _ | with_reducible apply bl_alloc | with_reducible apply bl_drewN | with_reducible apply bl_drew | with_reducible apply bl_set | with_reducible refine bl_call (by assumption) ?_ | (simp; done) | (simp; omega) | omega))) hn hm0 hm1).mono ?_; rintro e w1 ⟨rfl, rfl⟩
  go_wp2_with fail
  go_ret
  exact ⟨rfl, (by repeat' (first | with_reducible exact bl_refl _ | with_reducible apply bl_alloc | with_reducible apply bl_drewN | with_reducible apply bl_drew | with_reducible apply bl_set | with_reducible refine bl_call (by assumption) ?_ | (simp; done) | (simp; omega) | omega))⟩

/-- the zero ledger in a block that was just made -/
theorem zed_new {X : World} {t : TypeId} : Locals (X.alloc (.cells #[.int .i64 0, .int .i64 0, .slice none 0 0] t)) [(⟨X.heap.size, 0, none⟩, .int .i64 0), (⟨X.heap.size, 1, none⟩, .int .i64 0), (⟨X.heap.size, 2, none⟩, .slice none 0 0)] := by
  simp only [Locals]; repeat' (first | exact trivial | apply And.intro) <;> go_simp
theorem zed_drew {X : World} : ∀ {L : List (Addr × Value)}, Locals X L → Locals X.drew L
  | [], _ => trivial
  | _ :: _, h => ⟨h.1, zed_drew h.2⟩

theorem Locals.kept {w w' : World} : ∀ {L : List (Addr × Value)}, (∀ x ∈ L, w'.cell? x.1 = w.cell? x.1 ∧ w'.frozen? x.1 = w.frozen? x.1) → Locals w L → Locals w' L
  | [], _, _ => trivial
  | (a, v) :: r, h, ⟨⟨h1, h2⟩, h3⟩ => ⟨⟨(h (a, v) (by simp)).1.trans h1, (h (a, v) (by simp)).2.trans h2⟩, Locals.kept (fun x hx => h x (by simp [hx])) h3⟩

end Go.Proofs.Ytfebbpihcngjoaa
