/- The sum of a ledger's charges, both sides. -/
import Derived.Test.YtfebbpihcngjoaaFracD
import Derived.Test.YtfebbpihcngjoaaBack
import Derived.Deep.LoopGhost
namespace Go.Proofs.Ytfebbpihcngjoaa
open Go.RowKit
set_option linter.unusedVariables false
set_option linter.unusedSimpArgs false

def lsum : Fr → List Fr → Fr × Bool
  | acc, [] => (acc, true)
  | acc, f :: r => if (fsum acc f).2 then lsum (fsum acc f).1 r else (Fr.zero, false)

theorem fsum_ok {a b : Fr} (h : (fsum a b).2 = true) : (fsum a b).1.ok = true := by
  unfold fsum at h ⊢
  split at h
  · rename_i hh
    rw [if_pos hh]
    simp only [redB] at h
    simp only [Fr.ok, redN, redD, h, if_true]
  · cases h

theorem lsum_ok : ∀ {l : List Fr} {acc : Fr}, acc.ok = true → (lsum acc l).2 = true → (lsum acc l).1.ok = true
  | [], _, h, _ => h
  | f :: r, acc, h, hs => by
    unfold lsum at hs ⊢
    split at hs
    · rename_i hh; rw [if_pos hh]; exact lsum_ok (fsum_ok hh) hs
    · cases hs

set_option maxHeartbeats 1000000 in
theorem l32Sum_c (v : Value) (fs : List Fr) (w : World) (hI : FracsAt w v fs) (hn : fs.length ≤ 2000000) :
    Calls Try.prog 57 #[v] w fun e w' => e = .returned (.tuple #[(lsum ⟨0, 1⟩ fs).1.v, .bool (lsum ⟨0, 1⟩ fs).2]) ∧ Below w.heap.size w w' := by
  obtain ⟨a, cap, rfl, hcap, hcs⟩ := hI
  go_enter Try.func57, Try.ntmps57
  go_wp2_with fail
  go_loopg [5, 6, 7] (fs.length + 1) (fun m i p q wr => ∃ (k : Nat) (acc : Fr), k + m = fs.length + 1 ∧ k ≤ fs.length ∧ i = .int .i64 k ∧ Below w.heap.size w wr ∧ w.heap.size + 1 < wr.heap.size ∧
    Locals wr [(⟨w.heap.size, 0, none⟩, .int .i64 0), (⟨w.heap.size, 1, none⟩, .int .i64 0), (⟨w.heap.size + 1, 0, none⟩, .int .i64 acc.n), (⟨w.heap.size + 1, 1, none⟩, .int .i64 acc.d)] ∧ lsum acc (fs.drop k) = lsum ⟨0, 1⟩ fs)
  case atStart => exact ⟨0, ⟨0, 1⟩, by omega, by omega, rfl, (by repeat' (first | with_reducible exact bl_refl _ | with_reducible apply bl_alloc | with_reducible apply bl_drewN | with_reducible apply bl_drew | with_reducible apply bl_set | with_reducible refine bl_call (by assumption) ?_ | (simp; done) | (simp; omega) | omega)), by simp, by (simp only [Locals]; repeat' (first | exact trivial | apply And.intro) <;> go_simp), rfl⟩
  case round =>
    obtain ⟨k, acc, hm, hk, rfl, hB, hz, ⟨⟨c0, f0⟩, ⟨c1, f1⟩, ⟨c2, f2⟩, ⟨c3, f3⟩, -⟩, hl⟩ := hrel
    have Hl := Lib.hid hl
    clear hl
    have hz0 : w.heap.size < wr.heap.size := by omega
    by_cases hlt : k < fs.length
    · obtain ⟨b, off, rfl, hcs'⟩ := hcs.resolve_left (by intro e; subst e; simp at hlt)
      obtain ⟨e1, e2⟩ := hcs' k fs[k] (List.getElem?_eq_getElem hlt)
      have hd : fs.drop k = fs[k] :: fs.drop (k + 1) := List.drop_eq_getElem_cons hlt
      have Hd := Lib.hid hd
      clear hd hcs hcs'
      generalize fs[k] = f at *
      have hbl := lt_of_cell e1
      simp only at hbl
      have g1 := (hB.cell (p := ⟨b, off + k * 2, none⟩) hbl).trans e1
      have g2 := (hB.cell (p := ⟨b, off + k * 2 + 1, none⟩) hbl).trans e2
      clear e1 e2
      have hki : (k : Int) < fs.length := by omega
      have hsz := hB.size
      have hn1 : ¬ wr.heap.size = w.heap.size + 1 := by omega
      have hn2 : ¬ wr.heap.size = w.heap.size := by omega
      have hn3 : ¬ wr.heap.size = b := by omega
      cases hs : (fsum acc f).2
      · have Hs := Lib.hid hs
        clear hs
        go_wp2_with fail
        go_region_held3 (fun w' => w'.cell? ⟨w.heap.size + 1, 0, none⟩ = some (.int .i64 acc.n) ∧ w'.cell? ⟨w.heap.size + 1, 1, none⟩ = some (.int .i64 acc.d) ∧ w'.cell? ⟨b, off + k * 2, none⟩ = some (.int .i64 f.n) ∧ w'.cell? ⟨b, off + k * 2 + 1, none⟩ = some (.int .i64 f.d)) (go_keep)
          (first | (go_at_call 81; refine (sFracSum_c acc f _).mono ?_; rintro e w1 ⟨rfl, hb1⟩; simp only [Fr.v, Hs.out]; (first | (have hzw1_0 : w.heap.size < w1.heap.size := (by have hzz := hb1.size; (try simp at hzz); omega); have hzw1_1 : w.heap.size + 1 < w1.heap.size := (by have hzz := hb1.size; (try simp at hzz); omega); have hzw1_2 : b < w1.heap.size := (by have hzz := hb1.size; (try simp at hzz); omega); have hzw1_3 : wr.heap.size < w1.heap.size := (by have hzz := hb1.size; (try simp at hzz); omega); have Lw1 := Locals.call hb1 (L := [(⟨w.heap.size, 0, none⟩, .int .i64 0), (⟨w.heap.size, 1, none⟩, .int .i64 0), (⟨w.heap.size + 1, 0, none⟩, .int .i64 acc.n), (⟨w.heap.size + 1, 1, none⟩, .int .i64 acc.d), (⟨wr.heap.size, 0, none⟩, .int .i64 0), (⟨wr.heap.size, 1, none⟩, .int .i64 0)]) (by simp only [Locals]; repeat' (first | exact trivial | apply And.intro) <;> go_simp); obtain ⟨⟨cw1_0, fw1_0⟩, ⟨cw1_1, fw1_1⟩, ⟨cw1_2, fw1_2⟩, ⟨cw1_3, fw1_3⟩, ⟨cw1_4, fw1_4⟩, ⟨cw1_5, fw1_5⟩, -⟩ := Lw1; have Kw1 := CellsL.call hb1 (L := [(⟨b, off + k * 2, none⟩, .int .i64 f.n), (⟨b, off + k * 2 + 1, none⟩, .int .i64 f.d)]) (by simp only [CellsL]; repeat' (first | exact trivial | apply And.intro) <;> go_simp); obtain ⟨dw1_0, dw1_1, -⟩ := Kw1) | (have hzw1_0 : w.heap.size < w1.heap.size := (by have hzz := hb1.size; (try simp at hzz); omega); have hzw1_1 : w.heap.size + 1 < w1.heap.size := (by have hzz := hb1.size; (try simp at hzz); omega); have hzw1_2 : b < w1.heap.size := (by have hzz := hb1.size; (try simp at hzz); omega); have Lw1 := Locals.call hb1 (L := [(⟨w.heap.size, 0, none⟩, .int .i64 0), (⟨w.heap.size, 1, none⟩, .int .i64 0), (⟨w.heap.size + 1, 0, none⟩, .int .i64 acc.n), (⟨w.heap.size + 1, 1, none⟩, .int .i64 acc.d)]) (by simp only [Locals]; repeat' (first | exact trivial | apply And.intro) <;> go_simp); obtain ⟨⟨cw1_0, fw1_0⟩, ⟨cw1_1, fw1_1⟩, ⟨cw1_2, fw1_2⟩, ⟨cw1_3, fw1_3⟩, -⟩ := Lw1; have Kw1 := CellsL.call hb1 (L := [(⟨b, off + k * 2, none⟩, .int .i64 f.n), (⟨b, off + k * 2 + 1, none⟩, .int .i64 f.d)]) (by simp only [CellsL]; repeat' (first | exact trivial | apply And.intro) <;> go_simp); obtain ⟨dw1_0, dw1_1, -⟩ := Kw1))))
        all_goals
          go_wp2_with fail
          have hr : lsum ⟨0, 1⟩ fs = (Fr.zero, false) := by rw [← Hl.out, Hd.out]; unfold lsum; rw [Hs.out]; rfl
          rw [hr]
          refine bodyPost_ret (v := .tuple #[.agg #[.int .i64 0, .int .i64 0], .bool false]) (by simp only [results, Try.results57]; go_simp) rfl ⟨rfl, (by repeat' (first | with_reducible exact bl_refl _ | with_reducible apply bl_alloc | with_reducible apply bl_drewN | with_reducible apply bl_drew | with_reducible apply bl_set | with_reducible refine bl_call (by assumption) ?_ | (simp; done) | (simp; omega) | omega))⟩
      · have Hs := Lib.hid hs
        clear hs
        go_wp2_with fail
        go_region_held3 (fun w' => w'.cell? ⟨w.heap.size + 1, 0, none⟩ = some (.int .i64 acc.n) ∧ w'.cell? ⟨w.heap.size + 1, 1, none⟩ = some (.int .i64 acc.d) ∧ w'.cell? ⟨b, off + k * 2, none⟩ = some (.int .i64 f.n) ∧ w'.cell? ⟨b, off + k * 2 + 1, none⟩ = some (.int .i64 f.d)) (go_keep)
          (first | (go_at_call 81; refine (sFracSum_c acc f _).mono ?_; rintro e w1 ⟨rfl, hb1⟩; simp only [Fr.v, Hs.out]; (first | (have hzw1_0 : w.heap.size < w1.heap.size := (by have hzz := hb1.size; (try simp at hzz); omega); have hzw1_1 : w.heap.size + 1 < w1.heap.size := (by have hzz := hb1.size; (try simp at hzz); omega); have hzw1_2 : b < w1.heap.size := (by have hzz := hb1.size; (try simp at hzz); omega); have hzw1_3 : wr.heap.size < w1.heap.size := (by have hzz := hb1.size; (try simp at hzz); omega); have Lw1 := Locals.call hb1 (L := [(⟨w.heap.size, 0, none⟩, .int .i64 0), (⟨w.heap.size, 1, none⟩, .int .i64 0), (⟨w.heap.size + 1, 0, none⟩, .int .i64 acc.n), (⟨w.heap.size + 1, 1, none⟩, .int .i64 acc.d), (⟨wr.heap.size, 0, none⟩, .int .i64 0), (⟨wr.heap.size, 1, none⟩, .int .i64 0)]) (by simp only [Locals]; repeat' (first | exact trivial | apply And.intro) <;> go_simp); obtain ⟨⟨cw1_0, fw1_0⟩, ⟨cw1_1, fw1_1⟩, ⟨cw1_2, fw1_2⟩, ⟨cw1_3, fw1_3⟩, ⟨cw1_4, fw1_4⟩, ⟨cw1_5, fw1_5⟩, -⟩ := Lw1; have Kw1 := CellsL.call hb1 (L := [(⟨b, off + k * 2, none⟩, .int .i64 f.n), (⟨b, off + k * 2 + 1, none⟩, .int .i64 f.d)]) (by simp only [CellsL]; repeat' (first | exact trivial | apply And.intro) <;> go_simp); obtain ⟨dw1_0, dw1_1, -⟩ := Kw1) | (have hzw1_0 : w.heap.size < w1.heap.size := (by have hzz := hb1.size; (try simp at hzz); omega); have hzw1_1 : w.heap.size + 1 < w1.heap.size := (by have hzz := hb1.size; (try simp at hzz); omega); have hzw1_2 : b < w1.heap.size := (by have hzz := hb1.size; (try simp at hzz); omega); have Lw1 := Locals.call hb1 (L := [(⟨w.heap.size, 0, none⟩, .int .i64 0), (⟨w.heap.size, 1, none⟩, .int .i64 0), (⟨w.heap.size + 1, 0, none⟩, .int .i64 acc.n), (⟨w.heap.size + 1, 1, none⟩, .int .i64 acc.d)]) (by simp only [Locals]; repeat' (first | exact trivial | apply And.intro) <;> go_simp); obtain ⟨⟨cw1_0, fw1_0⟩, ⟨cw1_1, fw1_1⟩, ⟨cw1_2, fw1_2⟩, ⟨cw1_3, fw1_3⟩, -⟩ := Lw1; have Kw1 := CellsL.call hb1 (L := [(⟨b, off + k * 2, none⟩, .int .i64 f.n), (⟨b, off + k * 2 + 1, none⟩, .int .i64 f.d)]) (by simp only [CellsL]; repeat' (first | exact trivial | apply And.intro) <;> go_simp); obtain ⟨dw1_0, dw1_1, -⟩ := Kw1))))
        all_goals
          go_wp2_with fail
          go_roundg (gk - 1)
          case measure => omega
          case rel => exact ⟨k + 1, (fsum acc f).1, by omega, by omega, by go_num, (by repeat' (first | with_reducible exact bl_refl _ | with_reducible apply bl_alloc | with_reducible apply bl_drewN | with_reducible apply bl_drew | with_reducible apply bl_set | with_reducible refine bl_call (by assumption) ?_ | (simp; done) | (simp; omega) | omega)), by simp; omega, by (simp only [Locals]; repeat' (first | exact trivial | apply And.intro) <;> go_simp), by rw [← Hl.out, Hd.out]; (conv => rhs; unfold lsum; rw [Hs.out]); simp⟩
    · obtain rfl : k = fs.length := by omega
      have hr : lsum ⟨0, 1⟩ fs = (acc, true) := by rw [← Hl.out]; simp [lsum]
      go_wp2_with fail
      rw [hr]
      refine bodyPost_ret (v := .tuple #[.agg #[.int .i64 acc.n, .int .i64 acc.d], .bool true]) (by simp only [results, Try.results57]; go_simp) rfl ⟨rfl, (by repeat' (first | with_reducible exact bl_refl _ | with_reducible apply bl_alloc | with_reducible apply bl_drewN | with_reducible apply bl_drew | with_reducible apply bl_set | with_reducible refine bl_call (by assumption) ?_ | (simp; done) | (simp; omega) | omega))⟩

end Go.Proofs.Ytfebbpihcngjoaa
