/- Ledgers: whether valid, both sides. -/
import Derived.Test.YtfebbpihcngjoaaSum
namespace Go.Proofs.Ytfebbpihcngjoaa
open Go.RowKit
set_option linter.unusedVariables false
set_option linter.unusedSimpArgs false

def ledOk (cap : Fr) (paid : List Fr) : Bool :=
  cap.ok && decide (paid.length ≤ 8) && (lsum ⟨0, 1⟩ paid).2 && decide (cmpI ((lsum ⟨0, 1⟩ paid).1.n * cap.d) (cap.n * (lsum ⟨0, 1⟩ paid).1.d) ≤ 0)

theorem one_ok : Fr.ok ⟨0, 1⟩ = true := by decide +kernel

set_option maxHeartbeats 1000000 in
theorem sLedgerOk_c (cap : Fr) (v : Value) (fs : List Fr) (w : World) (hI : FracsAt w v fs) (hn : fs.length ≤ 2000000) :
    Calls Try.prog 26 #[.agg #[.int .i64 cap.n, .int .i64 cap.d, v]] w fun e w' => e = .returned (.bool (ledOk cap fs)) ∧ Below w.heap.size w w' := by
  have hso : (lsum ⟨0, 1⟩ fs).2 = true → (lsum ⟨0, 1⟩ fs).1.ok = true := lsum_ok one_ok
  obtain ⟨cn, cd⟩ := cap
  obtain ⟨a, cp, rfl, hcap, hcs⟩ := id hI
  obtain ⟨⟨⟨sn, sd⟩, sb⟩, hs⟩ : ∃ x, lsum ⟨0, 1⟩ fs = x := ⟨_, rfl⟩
  rw [hs] at hso
  unfold ledOk
  rw [hs]
  have Hs := Lib.hid hs
  have HI := Lib.hid hI
  have Hso := Lib.hid hso
  have hbx := hI.below (bl_alloc (bl_refl w) (.cells #[.int .i64 cn, .int .i64 cd, .slice a fs.length cp] 31))
  have Hbx := Lib.hid hbx
  clear hs hI hso hcs hbx
  have hn8 : (decide (fs.length ≤ 8) = true ∨ decide (fs.length ≤ 8) = false) := by cases decide (fs.length ≤ 8) <;> simp
  cases hok : Fr.ok ⟨cn, cd⟩
  · have Hok : Hid (fracOkB cn cd = false) := hok
    clear hok hn8
    go_enter Try.func26, Try.ntmps26
    go_wp2_with fail
    refine (l32Sum_c _ _ _ Hbx.out hn).mono ?_; rintro e w1 ⟨rfl, hb1⟩; rw [Hs.out]; simp only [Fr.v]; have hzw1_0 : w.heap.size < w1.heap.size := (by have hzz := hb1.size; (try simp at hzz); omega); have Lw1 := Locals.call hb1 (L := [(⟨w.heap.size, 0, none⟩, .int .i64 cn), (⟨w.heap.size, 1, none⟩, .int .i64 cd), (⟨w.heap.size, 2, none⟩, .slice a fs.length cp)]) (by simp only [Locals]; repeat' (first | exact trivial | apply And.intro) <;> go_simp); obtain ⟨⟨cw1_0, fw1_0⟩, ⟨cw1_1, fw1_1⟩, ⟨cw1_2, fw1_2⟩, -⟩ := Lw1
    go_wp2_with fail
    refine (sFracOk_c _ _ _).mono ?_; rintro e w2 ⟨rfl, hb2⟩; rw [Hok.out]; have hzw2_0 : w.heap.size < w2.heap.size := (by have hzz := hb2.size; (try simp at hzz); omega); have hzw2_1 : w1.heap.size < w2.heap.size := (by have hzz := hb2.size; (try simp at hzz); omega); have Lw2 := Locals.call hb2 (L := [(⟨w.heap.size, 0, none⟩, .int .i64 cn), (⟨w.heap.size, 1, none⟩, .int .i64 cd), (⟨w.heap.size, 2, none⟩, .slice a fs.length cp), (⟨w1.heap.size, 0, none⟩, .int .i64 sn), (⟨w1.heap.size, 1, none⟩, .int .i64 sd)]) (by simp only [Locals]; repeat' (first | exact trivial | apply And.intro) <;> go_simp); obtain ⟨⟨cw2_0, fw2_0⟩, ⟨cw2_1, fw2_1⟩, ⟨cw2_2, fw2_2⟩, ⟨cw2_3, fw2_3⟩, ⟨cw2_4, fw2_4⟩, -⟩ := Lw2
    go_wp2_with fail
    go_ret
    exact ⟨ret_b (by simp), (by repeat' (first | with_reducible exact bl_refl _ | with_reducible apply bl_alloc | with_reducible apply bl_drewN | with_reducible apply bl_drew | with_reducible apply bl_set | with_reducible refine bl_call (by assumption) ?_ | (simp; done) | (simp; omega) | omega))⟩
  · have Hok : Hid (fracOkB cn cd = true) := hok
    have Hoc := Lib.hid hok
    clear hok
    rcases hn8 with h8 | h8
    · have h8' : fs.length ≤ 8 := by simpa using h8
      have H8 := Lib.hid h8
      clear h8
      cases sb
      · go_enter Try.func26, Try.ntmps26
        go_wp2_with fail
        refine (l32Sum_c _ _ _ Hbx.out hn).mono ?_; rintro e w1 ⟨rfl, hb1⟩; rw [Hs.out]; simp only [Fr.v]; have hzw1_0 : w.heap.size < w1.heap.size := (by have hzz := hb1.size; (try simp at hzz); omega); have Lw1 := Locals.call hb1 (L := [(⟨w.heap.size, 0, none⟩, .int .i64 cn), (⟨w.heap.size, 1, none⟩, .int .i64 cd), (⟨w.heap.size, 2, none⟩, .slice a fs.length cp)]) (by simp only [Locals]; repeat' (first | exact trivial | apply And.intro) <;> go_simp); obtain ⟨⟨cw1_0, fw1_0⟩, ⟨cw1_1, fw1_1⟩, ⟨cw1_2, fw1_2⟩, -⟩ := Lw1
        go_wp2_with fail
        refine (sFracOk_c _ _ _).mono ?_; rintro e w2 ⟨rfl, hb2⟩; rw [Hok.out]; have hzw2_0 : w.heap.size < w2.heap.size := (by have hzz := hb2.size; (try simp at hzz); omega); have hzw2_1 : w1.heap.size < w2.heap.size := (by have hzz := hb2.size; (try simp at hzz); omega); have Lw2 := Locals.call hb2 (L := [(⟨w.heap.size, 0, none⟩, .int .i64 cn), (⟨w.heap.size, 1, none⟩, .int .i64 cd), (⟨w.heap.size, 2, none⟩, .slice a fs.length cp), (⟨w1.heap.size, 0, none⟩, .int .i64 sn), (⟨w1.heap.size, 1, none⟩, .int .i64 sd)]) (by simp only [Locals]; repeat' (first | exact trivial | apply And.intro) <;> go_simp); obtain ⟨⟨cw2_0, fw2_0⟩, ⟨cw2_1, fw2_1⟩, ⟨cw2_2, fw2_2⟩, ⟨cw2_3, fw2_3⟩, ⟨cw2_4, fw2_4⟩, -⟩ := Lw2
        go_wp2_with fail
        go_ret
        exact ⟨ret_b (by simp), (by repeat' (first | with_reducible exact bl_refl _ | with_reducible apply bl_alloc | with_reducible apply bl_drewN | with_reducible apply bl_drew | with_reducible apply bl_set | with_reducible refine bl_call (by assumption) ?_ | (simp; done) | (simp; omega) | omega))⟩
      · go_enter Try.func26, Try.ntmps26
        go_wp2_with fail
        refine (l32Sum_c _ _ _ Hbx.out hn).mono ?_; rintro e w1 ⟨rfl, hb1⟩; rw [Hs.out]; simp only [Fr.v]; have hzw1_0 : w.heap.size < w1.heap.size := (by have hzz := hb1.size; (try simp at hzz); omega); have Lw1 := Locals.call hb1 (L := [(⟨w.heap.size, 0, none⟩, .int .i64 cn), (⟨w.heap.size, 1, none⟩, .int .i64 cd), (⟨w.heap.size, 2, none⟩, .slice a fs.length cp)]) (by simp only [Locals]; repeat' (first | exact trivial | apply And.intro) <;> go_simp); obtain ⟨⟨cw1_0, fw1_0⟩, ⟨cw1_1, fw1_1⟩, ⟨cw1_2, fw1_2⟩, -⟩ := Lw1
        go_wp2_with fail
        refine (sFracOk_c _ _ _).mono ?_; rintro e w2 ⟨rfl, hb2⟩; rw [Hok.out]; have hzw2_0 : w.heap.size < w2.heap.size := (by have hzz := hb2.size; (try simp at hzz); omega); have hzw2_1 : w1.heap.size < w2.heap.size := (by have hzz := hb2.size; (try simp at hzz); omega); have Lw2 := Locals.call hb2 (L := [(⟨w.heap.size, 0, none⟩, .int .i64 cn), (⟨w.heap.size, 1, none⟩, .int .i64 cd), (⟨w.heap.size, 2, none⟩, .slice a fs.length cp), (⟨w1.heap.size, 0, none⟩, .int .i64 sn), (⟨w1.heap.size, 1, none⟩, .int .i64 sd)]) (by simp only [Locals]; repeat' (first | exact trivial | apply And.intro) <;> go_simp); obtain ⟨⟨cw2_0, fw2_0⟩, ⟨cw2_1, fw2_1⟩, ⟨cw2_2, fw2_2⟩, ⟨cw2_3, fw2_3⟩, ⟨cw2_4, fw2_4⟩, -⟩ := Lw2
        go_wp2_with fail
        refine (l31Cmp_c ⟨sn, sd⟩ ⟨cn, cd⟩ _ (Hso.out (by trivial)) Hoc.out).mono ?_; rintro e w3 ⟨rfl, hb3⟩
        go_wp2_with fail
        go_ret
        exact ⟨ret_b (by simp [Hoc.out, h8']), (by repeat' (first | with_reducible exact bl_refl _ | with_reducible apply bl_alloc | with_reducible apply bl_drewN | with_reducible apply bl_drew | with_reducible apply bl_set | with_reducible refine bl_call (by assumption) ?_ | (simp; done) | (simp; omega) | omega))⟩
    · have h8' : ¬ fs.length ≤ 8 := by simpa using h8
      have h8i : 8 < (fs.length : Int) := by omega
      clear h8
      go_enter Try.func26, Try.ntmps26
      go_wp2_with fail
      refine (l32Sum_c _ _ _ Hbx.out hn).mono ?_; rintro e w1 ⟨rfl, hb1⟩; rw [Hs.out]; simp only [Fr.v]; have hzw1_0 : w.heap.size < w1.heap.size := (by have hzz := hb1.size; (try simp at hzz); omega); have Lw1 := Locals.call hb1 (L := [(⟨w.heap.size, 0, none⟩, .int .i64 cn), (⟨w.heap.size, 1, none⟩, .int .i64 cd), (⟨w.heap.size, 2, none⟩, .slice a fs.length cp)]) (by simp only [Locals]; repeat' (first | exact trivial | apply And.intro) <;> go_simp); obtain ⟨⟨cw1_0, fw1_0⟩, ⟨cw1_1, fw1_1⟩, ⟨cw1_2, fw1_2⟩, -⟩ := Lw1
      go_wp2_with fail
      refine (sFracOk_c _ _ _).mono ?_; rintro e w2 ⟨rfl, hb2⟩; rw [Hok.out]; have hzw2_0 : w.heap.size < w2.heap.size := (by have hzz := hb2.size; (try simp at hzz); omega); have hzw2_1 : w1.heap.size < w2.heap.size := (by have hzz := hb2.size; (try simp at hzz); omega); have Lw2 := Locals.call hb2 (L := [(⟨w.heap.size, 0, none⟩, .int .i64 cn), (⟨w.heap.size, 1, none⟩, .int .i64 cd), (⟨w.heap.size, 2, none⟩, .slice a fs.length cp), (⟨w1.heap.size, 0, none⟩, .int .i64 sn), (⟨w1.heap.size, 1, none⟩, .int .i64 sd)]) (by simp only [Locals]; repeat' (first | exact trivial | apply And.intro) <;> go_simp); obtain ⟨⟨cw2_0, fw2_0⟩, ⟨cw2_1, fw2_1⟩, ⟨cw2_2, fw2_2⟩, ⟨cw2_3, fw2_3⟩, ⟨cw2_4, fw2_4⟩, -⟩ := Lw2
      go_wp2_with fail
      go_ret
      exact ⟨ret_b (by simp), (by repeat' (first | with_reducible exact bl_refl _ | with_reducible apply bl_alloc | with_reducible apply bl_drewN | with_reducible apply bl_drew | with_reducible apply bl_set | with_reducible refine bl_call (by assumption) ?_ | (simp; done) | (simp; omega) | omega))⟩

theorem ChargeL.below {B : Nat} {w w1 : World} {p : Option Addr} {fs : List Fr} (h : ChargeL B w p fs) (hb : Below w.heap.size w w1) : ChargeL B w1 p fs :=
  h.mono fun a v hc _ => by rw [hb.cell (lt_of_cell hc)]; exact hc
theorem ChargeL.keeps {B : Nat} {w w1 : World} {p : Option Addr} {fs : List Fr} (h : ChargeL B w p fs) (hk : Keeps B w w1) : ChargeL B w1 p fs := h.mono hk

def ledSum (cap : Fr) (paid : List Fr) : Fr := if ledOk cap paid then (lsum ⟨0, 1⟩ paid).1 else Fr.zero

set_option maxHeartbeats 2000000 in
theorem iLedgerSum_c (cap : Fr) (v : Value) (fs : List Fr) (w : World) (hI : FracsAt w v fs) :
    Calls Try.prog 61 #[.agg #[.int .i64 cap.n, .int .i64 cap.d, v]] w fun e w' => e = .returned (.tuple #[(ledSum cap fs).v, .bool (ledOk cap fs)]) ∧ Below w.heap.size w w' := by
  have hso : (lsum ⟨0, 1⟩ fs).2 = true → (lsum ⟨0, 1⟩ fs).1.ok = true := lsum_ok one_ok
  obtain ⟨cn, cd⟩ := cap
  obtain ⟨a, cp, rfl, hcap, hcs⟩ := id hI
  have HI := Lib.hid hI
  have Hso := Lib.hid hso
  clear hI hso hcs
  cases hok : Fr.ok ⟨cn, cd⟩
  · have Hok : Hid (fracOkB cn cd = false) := hok
    have hr : ledOk ⟨cn, cd⟩ fs = false := by unfold ledOk; rw [hok]; simp
    have hr2 : ledSum ⟨cn, cd⟩ fs = Fr.zero := by unfold ledSum; rw [hr]; rfl
    rw [hr, hr2]
    clear hok hr hr2
    go_enter Try.func61, Try.ntmps61
    go_wp2_with fail
    refine (iFracOk_c _ _ _).mono ?_; rintro e w1 ⟨rfl, hb1⟩; rw [Hok.out]; have hzw1_0 : w.heap.size < w1.heap.size := (by have hzz := hb1.size; (try simp at hzz); omega); have hzw1_1 : w.heap.size + 1 < w1.heap.size := (by have hzz := hb1.size; (try simp at hzz); omega); have Lw1 := Locals.call hb1 (L := [(⟨w.heap.size, 0, none⟩, .int .i64 cn), (⟨w.heap.size, 1, none⟩, .int .i64 cd), (⟨w.heap.size, 2, none⟩, .slice a fs.length cp), (⟨w.heap.size + 1, 0, none⟩, .int .i64 0), (⟨w.heap.size + 1, 1, none⟩, .int .i64 0)]) (by simp only [Locals]; repeat' (first | exact trivial | apply And.intro) <;> go_simp); obtain ⟨⟨cw1_0, fw1_0⟩, ⟨cw1_1, fw1_1⟩, ⟨cw1_2, fw1_2⟩, ⟨cw1_3, fw1_3⟩, ⟨cw1_4, fw1_4⟩, -⟩ := Lw1
    go_wp2_with fail
    refine bodyPost_ret (v := .tuple #[.agg #[.int .i64 0, .int .i64 0], .bool false]) (by simp only [results, Try.results61]; go_simp) rfl ⟨rfl, (by repeat' (first | with_reducible exact bl_refl _ | with_reducible apply bl_alloc | with_reducible apply bl_drewN | with_reducible apply bl_drew | with_reducible apply bl_set | with_reducible refine bl_call (by assumption) ?_ | (simp; done) | (simp; omega) | omega))⟩
  · have Hok : Hid (fracOkB cn cd = true) := hok
    have Hoc := Lib.hid hok
    clear hok
    by_cases h8 : fs.length ≤ 8
    · have h8i : (fs.length : Int) ≤ 8 := by omega
      go_enter Try.func61, Try.ntmps61
      go_wp2_with fail
      refine (iFracOk_c _ _ _).mono ?_; rintro e w1 ⟨rfl, hb1⟩; rw [Hok.out]; have hzw1_0 : w.heap.size < w1.heap.size := (by have hzz := hb1.size; (try simp at hzz); omega); have hzw1_1 : w.heap.size + 1 < w1.heap.size := (by have hzz := hb1.size; (try simp at hzz); omega); have Lw1 := Locals.call hb1 (L := [(⟨w.heap.size, 0, none⟩, .int .i64 cn), (⟨w.heap.size, 1, none⟩, .int .i64 cd), (⟨w.heap.size, 2, none⟩, .slice a fs.length cp), (⟨w.heap.size + 1, 0, none⟩, .int .i64 0), (⟨w.heap.size + 1, 1, none⟩, .int .i64 0)]) (by simp only [Locals]; repeat' (first | exact trivial | apply And.intro) <;> go_simp); obtain ⟨⟨cw1_0, fw1_0⟩, ⟨cw1_1, fw1_1⟩, ⟨cw1_2, fw1_2⟩, ⟨cw1_3, fw1_3⟩, ⟨cw1_4, fw1_4⟩, -⟩ := Lw1
      go_wp2_with fail
      refine (chargesOf_c _ fs (by omega) _ (HI.out.below (bl_alloc (bl_call hb1 (bl_alloc (bl_alloc (bl_refl _) _) _)) _))).mono ?_; rintro e w2 ⟨p, rfl, hL, hb2⟩; have hzw2_0 : w.heap.size < w2.heap.size := (by have hzz := hb2.size; (try simp at hzz); omega); have hzw2_1 : w.heap.size + 1 < w2.heap.size := (by have hzz := hb2.size; (try simp at hzz); omega); have hzw2_2 : w1.heap.size < w2.heap.size := (by have hzz := hb2.size; (try simp at hzz); omega); have Lw2 := Locals.call hb2 (L := [(⟨w.heap.size, 0, none⟩, .int .i64 cn), (⟨w.heap.size, 1, none⟩, .int .i64 cd), (⟨w.heap.size, 2, none⟩, .slice a fs.length cp), (⟨w.heap.size + 1, 0, none⟩, .int .i64 0), (⟨w.heap.size + 1, 1, none⟩, .int .i64 0), (⟨w1.heap.size, 0, none⟩, .int .i64 0), (⟨w1.heap.size, 1, none⟩, .int .i64 1)]) (by simp only [Locals]; repeat' (first | exact trivial | apply And.intro) <;> go_simp); obtain ⟨⟨cw2_0, fw2_0⟩, ⟨cw2_1, fw2_1⟩, ⟨cw2_2, fw2_2⟩, ⟨cw2_3, fw2_3⟩, ⟨cw2_4, fw2_4⟩, ⟨cw2_5, fw2_5⟩, ⟨cw2_6, fw2_6⟩, -⟩ := Lw2
      rw [World.size_alloc] at hL
      have hB2 : Below w.heap.size w w2 := (by repeat' (first | with_reducible exact bl_refl _ | with_reducible apply bl_alloc | with_reducible apply bl_drewN | with_reducible apply bl_drew | with_reducible apply bl_set | with_reducible refine bl_call (by assumption) ?_ | (simp; done) | (simp; omega) | omega))
      go_wp2_with fail
      go_loopg [5, 6, 7] (fs.length + 1) (fun m i p6 q7 wr => ∃ (p : Option Addr) (acc : Fr) (rest : List Fr), rest.length + 1 = m ∧ i = .pointer p ∧ Below w.heap.size w wr ∧ w1.heap.size < wr.heap.size ∧ ChargeL (w1.heap.size + 1) wr p rest ∧
        Locals wr [(⟨w.heap.size, 0, none⟩, .int .i64 cn), (⟨w.heap.size, 1, none⟩, .int .i64 cd), (⟨w.heap.size, 2, none⟩, .slice a fs.length cp), (⟨w.heap.size + 1, 0, none⟩, .int .i64 0), (⟨w.heap.size + 1, 1, none⟩, .int .i64 0), (⟨w1.heap.size, 0, none⟩, .int .i64 acc.n), (⟨w1.heap.size, 1, none⟩, .int .i64 acc.d)] ∧ lsum acc rest = lsum ⟨0, 1⟩ fs)
      case atStart => exact ⟨p, ⟨0, 1⟩, fs, rfl, rfl, hB2, by omega, hL, by (simp only [Locals]; repeat' (first | exact trivial | apply And.intro) <;> go_simp), rfl⟩
      case round =>
        obtain ⟨p, acc, rest, hm, rfl, hB, hz, hL, ⟨⟨c0, f0⟩, ⟨c1, f1⟩, ⟨c2, f2⟩, ⟨c3, f3⟩, ⟨c4, f4⟩, ⟨c5, f5⟩, ⟨c6, f6⟩, -⟩, hl⟩ := hrel
        have Hl := Lib.hid hl
        clear hl
        have hsz := hB.size
        have hz0 : w.heap.size < wr.heap.size := by omega
        have hz1 : w.heap.size + 1 < wr.heap.size := by omega
        cases rest with
        | nil =>
          obtain rfl : p = none := hL
          have hr : lsum ⟨0, 1⟩ fs = (acc, true) := by rw [← Hl.out]; rfl
          have hao : acc.ok = true := by have := Hso.out; rw [hr] at this; exact this rfl
          have hfc : fcmp acc ⟨cn, cd⟩ = cmpI (acc.n * cd) (cn * acc.d) := by unfold fcmp; rw [if_pos (by simp [hao, Hoc.out])]
          by_cases hc : 0 < cmpI (acc.n * cd) (cn * acc.d)
          · have hr1 : ledOk ⟨cn, cd⟩ fs = false := by unfold ledOk; rw [hr]; simp [Hoc.out]; intro _; omega
            have hr2 : ledSum ⟨cn, cd⟩ fs = Fr.zero := by unfold ledSum; rw [hr1]; rfl
            have Hr1 := Lib.hid hr1
            have Hr2 := Lib.hid hr2
            have Hfc := Lib.hid hfc
            clear hr1 hr2 hr hao hfc
            go_wp2_with fail
            refine (iFracCmp_c acc ⟨cn, cd⟩ _).mono ?_; rintro e w3 ⟨rfl, hb3⟩; rw [Hfc.out]; have hzw3_0 : w.heap.size < w3.heap.size := (by have hzz := hb3.size; (try simp at hzz); omega); have hzw3_1 : w.heap.size + 1 < w3.heap.size := (by have hzz := hb3.size; (try simp at hzz); omega); have hzw3_2 : w1.heap.size < w3.heap.size := (by have hzz := hb3.size; (try simp at hzz); omega); have Lw3 := Locals.call hb3 (L := [(⟨w.heap.size, 0, none⟩, .int .i64 cn), (⟨w.heap.size, 1, none⟩, .int .i64 cd), (⟨w.heap.size, 2, none⟩, .slice a fs.length cp), (⟨w.heap.size + 1, 0, none⟩, .int .i64 0), (⟨w.heap.size + 1, 1, none⟩, .int .i64 0), (⟨w1.heap.size, 0, none⟩, .int .i64 acc.n), (⟨w1.heap.size, 1, none⟩, .int .i64 acc.d)]) (by simp only [Locals]; repeat' (first | exact trivial | apply And.intro) <;> go_simp); obtain ⟨⟨cw3_0, fw3_0⟩, ⟨cw3_1, fw3_1⟩, ⟨cw3_2, fw3_2⟩, ⟨cw3_3, fw3_3⟩, ⟨cw3_4, fw3_4⟩, ⟨cw3_5, fw3_5⟩, ⟨cw3_6, fw3_6⟩, -⟩ := Lw3
            go_wp2_with fail
            rw [Hr1.out, Hr2.out]
            refine bodyPost_ret (v := .tuple #[.agg #[.int .i64 0, .int .i64 0], .bool false]) (by simp only [results, Try.results61]; go_simp) rfl ⟨rfl, (by repeat' (first | with_reducible exact bl_refl _ | with_reducible apply bl_alloc | with_reducible apply bl_drewN | with_reducible apply bl_drew | with_reducible apply bl_set | with_reducible refine bl_call (by assumption) ?_ | (simp; done) | (simp; omega) | omega))⟩
          · have hr1 : ledOk ⟨cn, cd⟩ fs = true := by unfold ledOk; rw [hr]; simp [Hoc.out]; exact ⟨h8, by omega⟩
            have hr2 : ledSum ⟨cn, cd⟩ fs = acc := by unfold ledSum; rw [hr1, hr]; rfl
            have Hr1 := Lib.hid hr1
            have Hr2 := Lib.hid hr2
            have Hfc := Lib.hid hfc
            clear hr1 hr2 hr hao hfc
            go_wp2_with fail
            refine (iFracCmp_c acc ⟨cn, cd⟩ _).mono ?_; rintro e w3 ⟨rfl, hb3⟩; rw [Hfc.out]; have hzw3_0 : w.heap.size < w3.heap.size := (by have hzz := hb3.size; (try simp at hzz); omega); have hzw3_1 : w.heap.size + 1 < w3.heap.size := (by have hzz := hb3.size; (try simp at hzz); omega); have hzw3_2 : w1.heap.size < w3.heap.size := (by have hzz := hb3.size; (try simp at hzz); omega); have Lw3 := Locals.call hb3 (L := [(⟨w.heap.size, 0, none⟩, .int .i64 cn), (⟨w.heap.size, 1, none⟩, .int .i64 cd), (⟨w.heap.size, 2, none⟩, .slice a fs.length cp), (⟨w.heap.size + 1, 0, none⟩, .int .i64 0), (⟨w.heap.size + 1, 1, none⟩, .int .i64 0), (⟨w1.heap.size, 0, none⟩, .int .i64 acc.n), (⟨w1.heap.size, 1, none⟩, .int .i64 acc.d)]) (by simp only [Locals]; repeat' (first | exact trivial | apply And.intro) <;> go_simp); obtain ⟨⟨cw3_0, fw3_0⟩, ⟨cw3_1, fw3_1⟩, ⟨cw3_2, fw3_2⟩, ⟨cw3_3, fw3_3⟩, ⟨cw3_4, fw3_4⟩, ⟨cw3_5, fw3_5⟩, ⟨cw3_6, fw3_6⟩, -⟩ := Lw3
            go_wp2_with fail
            rw [Hr1.out, Hr2.out]
            refine bodyPost_ret (v := .tuple #[.agg #[.int .i64 acc.n, .int .i64 acc.d], .bool true]) (by simp only [results, Try.results61]; go_simp) rfl ⟨rfl, (by repeat' (first | with_reducible exact bl_refl _ | with_reducible apply bl_alloc | with_reducible apply bl_drewN | with_reducible apply bl_drew | with_reducible apply bl_set | with_reducible refine bl_call (by assumption) ?_ | (simp; done) | (simp; omega) | omega))⟩
        | cons f r =>
          obtain ⟨b, q, rfl, hbB, e0, e1, e2, hL'⟩ := hL
          have Hm := Lib.hid hm
          clear hm
          have hbz := lt_of_cell e0
          simp only at hbz
          have hn1 : ¬ wr.heap.size = w.heap.size + 1 := by omega
          have hn2 : ¬ wr.heap.size = w.heap.size := by omega
          have hn3 : ¬ wr.heap.size = b := by omega
          have hn4 : ¬ wr.heap.size = w1.heap.size := by omega
          have hn5 : ¬ w1.heap.size = w.heap.size := by omega
          have hn6 : ¬ w1.heap.size = w.heap.size + 1 := by omega
          have hn7 : ¬ w1.heap.size = b := by omega
          cases hs : (fsum acc f).2
          · have Hs := Lib.hid hs
            clear hs
            have hr : (lsum ⟨0, 1⟩ fs).2 = false := by rw [← Hl.out]; unfold lsum; rw [Hs.out]; rfl
            have hr1 : ledOk ⟨cn, cd⟩ fs = false := by unfold ledOk; rw [hr]; simp
            have hr2 : ledSum ⟨cn, cd⟩ fs = Fr.zero := by unfold ledSum; rw [hr1]; rfl
            have Hr1 := Lib.hid hr1
            have Hr2 := Lib.hid hr2
            clear hr1 hr2 hr
            go_wp2_with fail
            go_region_held3 (fun w' => w'.cell? ⟨w1.heap.size, 0, none⟩ = some (.int .i64 acc.n) ∧ w'.cell? ⟨w1.heap.size, 1, none⟩ = some (.int .i64 acc.d) ∧ w'.cell? ⟨b, 0, none⟩ = some (.int .i64 f.n) ∧ w'.cell? ⟨b, 1, none⟩ = some (.int .i64 f.d)) (go_keep)
              (first | (go_at_call 83; refine (iFracSum_c acc f _).mono ?_; rintro e w3 ⟨rfl, hb3⟩; simp only [Fr.v, Hs.out]; (first | (have hzw3_0 : w.heap.size < w3.heap.size := (by have hzz := hb3.size; (try simp at hzz); omega); have hzw3_1 : w.heap.size + 1 < w3.heap.size := (by have hzz := hb3.size; (try simp at hzz); omega); have hzw3_2 : w1.heap.size < w3.heap.size := (by have hzz := hb3.size; (try simp at hzz); omega); have hzw3_3 : b < w3.heap.size := (by have hzz := hb3.size; (try simp at hzz); omega); have hzw3_4 : wr.heap.size < w3.heap.size := (by have hzz := hb3.size; (try simp at hzz); omega); have Lw3 := Locals.call hb3 (L := [(⟨w.heap.size, 0, none⟩, .int .i64 cn), (⟨w.heap.size, 1, none⟩, .int .i64 cd), (⟨w.heap.size, 2, none⟩, .slice a fs.length cp), (⟨w.heap.size + 1, 0, none⟩, .int .i64 0), (⟨w.heap.size + 1, 1, none⟩, .int .i64 0), (⟨w1.heap.size, 0, none⟩, .int .i64 acc.n), (⟨w1.heap.size, 1, none⟩, .int .i64 acc.d), (⟨wr.heap.size, 0, none⟩, .int .i64 0), (⟨wr.heap.size, 1, none⟩, .int .i64 0)]) (by simp only [Locals]; repeat' (first | exact trivial | apply And.intro) <;> go_simp); obtain ⟨⟨cw3_0, fw3_0⟩, ⟨cw3_1, fw3_1⟩, ⟨cw3_2, fw3_2⟩, ⟨cw3_3, fw3_3⟩, ⟨cw3_4, fw3_4⟩, ⟨cw3_5, fw3_5⟩, ⟨cw3_6, fw3_6⟩, ⟨cw3_7, fw3_7⟩, ⟨cw3_8, fw3_8⟩, -⟩ := Lw3; have Kw3 := CellsL.call hb3 (L := [(⟨b, 0, none⟩, .int .i64 f.n), (⟨b, 1, none⟩, .int .i64 f.d), (⟨b, 2, none⟩, .pointer q)]) (by simp only [CellsL]; repeat' (first | exact trivial | apply And.intro) <;> go_simp); obtain ⟨dw3_0, dw3_1, dw3_2, -⟩ := Kw3) | (have hzw3_0 : w.heap.size < w3.heap.size := (by have hzz := hb3.size; (try simp at hzz); omega); have hzw3_1 : w.heap.size + 1 < w3.heap.size := (by have hzz := hb3.size; (try simp at hzz); omega); have hzw3_2 : w1.heap.size < w3.heap.size := (by have hzz := hb3.size; (try simp at hzz); omega); have hzw3_3 : b < w3.heap.size := (by have hzz := hb3.size; (try simp at hzz); omega); have Lw3 := Locals.call hb3 (L := [(⟨w.heap.size, 0, none⟩, .int .i64 cn), (⟨w.heap.size, 1, none⟩, .int .i64 cd), (⟨w.heap.size, 2, none⟩, .slice a fs.length cp), (⟨w.heap.size + 1, 0, none⟩, .int .i64 0), (⟨w.heap.size + 1, 1, none⟩, .int .i64 0), (⟨w1.heap.size, 0, none⟩, .int .i64 acc.n), (⟨w1.heap.size, 1, none⟩, .int .i64 acc.d)]) (by simp only [Locals]; repeat' (first | exact trivial | apply And.intro) <;> go_simp); obtain ⟨⟨cw3_0, fw3_0⟩, ⟨cw3_1, fw3_1⟩, ⟨cw3_2, fw3_2⟩, ⟨cw3_3, fw3_3⟩, ⟨cw3_4, fw3_4⟩, ⟨cw3_5, fw3_5⟩, ⟨cw3_6, fw3_6⟩, -⟩ := Lw3; have Kw3 := CellsL.call hb3 (L := [(⟨b, 0, none⟩, .int .i64 f.n), (⟨b, 1, none⟩, .int .i64 f.d), (⟨b, 2, none⟩, .pointer q)]) (by simp only [CellsL]; repeat' (first | exact trivial | apply And.intro) <;> go_simp); obtain ⟨dw3_0, dw3_1, dw3_2, -⟩ := Kw3))))
            all_goals
              go_wp2_with fail
              rw [Hr1.out, Hr2.out]
              refine bodyPost_ret (v := .tuple #[.agg #[.int .i64 0, .int .i64 0], .bool false]) (by simp only [results, Try.results61]; go_simp) rfl ⟨rfl, (by repeat' (first | with_reducible exact bl_refl _ | with_reducible apply bl_alloc | with_reducible apply bl_drewN | with_reducible apply bl_drew | with_reducible apply bl_set | with_reducible refine bl_call (by assumption) ?_ | (simp; done) | (simp; omega) | omega))⟩
          · have Hs := Lib.hid hs
            clear hs
            go_wp2_with fail
            go_region_held3 (fun w' => w'.cell? ⟨w1.heap.size, 0, none⟩ = some (.int .i64 acc.n) ∧ w'.cell? ⟨w1.heap.size, 1, none⟩ = some (.int .i64 acc.d) ∧ w'.cell? ⟨b, 0, none⟩ = some (.int .i64 f.n) ∧ w'.cell? ⟨b, 1, none⟩ = some (.int .i64 f.d)) (go_keep)
              (first | (go_at_call 83; refine (iFracSum_c acc f _).mono ?_; rintro e w3 ⟨rfl, hb3⟩; simp only [Fr.v, Hs.out]; (first | (have hzw3_0 : w.heap.size < w3.heap.size := (by have hzz := hb3.size; (try simp at hzz); omega); have hzw3_1 : w.heap.size + 1 < w3.heap.size := (by have hzz := hb3.size; (try simp at hzz); omega); have hzw3_2 : w1.heap.size < w3.heap.size := (by have hzz := hb3.size; (try simp at hzz); omega); have hzw3_3 : b < w3.heap.size := (by have hzz := hb3.size; (try simp at hzz); omega); have hzw3_4 : wr.heap.size < w3.heap.size := (by have hzz := hb3.size; (try simp at hzz); omega); have Lw3 := Locals.call hb3 (L := [(⟨w.heap.size, 0, none⟩, .int .i64 cn), (⟨w.heap.size, 1, none⟩, .int .i64 cd), (⟨w.heap.size, 2, none⟩, .slice a fs.length cp), (⟨w.heap.size + 1, 0, none⟩, .int .i64 0), (⟨w.heap.size + 1, 1, none⟩, .int .i64 0), (⟨w1.heap.size, 0, none⟩, .int .i64 acc.n), (⟨w1.heap.size, 1, none⟩, .int .i64 acc.d), (⟨wr.heap.size, 0, none⟩, .int .i64 0), (⟨wr.heap.size, 1, none⟩, .int .i64 0)]) (by simp only [Locals]; repeat' (first | exact trivial | apply And.intro) <;> go_simp); obtain ⟨⟨cw3_0, fw3_0⟩, ⟨cw3_1, fw3_1⟩, ⟨cw3_2, fw3_2⟩, ⟨cw3_3, fw3_3⟩, ⟨cw3_4, fw3_4⟩, ⟨cw3_5, fw3_5⟩, ⟨cw3_6, fw3_6⟩, ⟨cw3_7, fw3_7⟩, ⟨cw3_8, fw3_8⟩, -⟩ := Lw3; have Kw3 := CellsL.call hb3 (L := [(⟨b, 0, none⟩, .int .i64 f.n), (⟨b, 1, none⟩, .int .i64 f.d), (⟨b, 2, none⟩, .pointer q)]) (by simp only [CellsL]; repeat' (first | exact trivial | apply And.intro) <;> go_simp); obtain ⟨dw3_0, dw3_1, dw3_2, -⟩ := Kw3) | (have hzw3_0 : w.heap.size < w3.heap.size := (by have hzz := hb3.size; (try simp at hzz); omega); have hzw3_1 : w.heap.size + 1 < w3.heap.size := (by have hzz := hb3.size; (try simp at hzz); omega); have hzw3_2 : w1.heap.size < w3.heap.size := (by have hzz := hb3.size; (try simp at hzz); omega); have hzw3_3 : b < w3.heap.size := (by have hzz := hb3.size; (try simp at hzz); omega); have Lw3 := Locals.call hb3 (L := [(⟨w.heap.size, 0, none⟩, .int .i64 cn), (⟨w.heap.size, 1, none⟩, .int .i64 cd), (⟨w.heap.size, 2, none⟩, .slice a fs.length cp), (⟨w.heap.size + 1, 0, none⟩, .int .i64 0), (⟨w.heap.size + 1, 1, none⟩, .int .i64 0), (⟨w1.heap.size, 0, none⟩, .int .i64 acc.n), (⟨w1.heap.size, 1, none⟩, .int .i64 acc.d)]) (by simp only [Locals]; repeat' (first | exact trivial | apply And.intro) <;> go_simp); obtain ⟨⟨cw3_0, fw3_0⟩, ⟨cw3_1, fw3_1⟩, ⟨cw3_2, fw3_2⟩, ⟨cw3_3, fw3_3⟩, ⟨cw3_4, fw3_4⟩, ⟨cw3_5, fw3_5⟩, ⟨cw3_6, fw3_6⟩, -⟩ := Lw3; have Kw3 := CellsL.call hb3 (L := [(⟨b, 0, none⟩, .int .i64 f.n), (⟨b, 1, none⟩, .int .i64 f.d), (⟨b, 2, none⟩, .pointer q)]) (by simp only [CellsL]; repeat' (first | exact trivial | apply And.intro) <;> go_simp); obtain ⟨dw3_0, dw3_1, dw3_2, -⟩ := Kw3))))
            all_goals
              go_wp2_with fail
              go_roundg (gk - 1)
              case measure => have := Hm.out; simp at this; omega
              case rel =>
                refine ⟨q, (fsum acc f).1, r, ?_, rfl, ?_, ?_, ?_, ?_, ?_⟩
                · have := Hm.out; simp at this; omega
                · exact (by repeat' (first | with_reducible exact bl_refl _ | with_reducible apply bl_alloc | with_reducible apply bl_drewN | with_reducible apply bl_drew | with_reducible apply bl_set | with_reducible refine bl_call (by assumption) ?_ | (simp; done) | (simp; omega) | omega))
                · simp; omega
                · exact hL'.keeps (by repeat' (first | with_reducible exact Keeps.refl _ _ | with_reducible apply Keeps.alloc | with_reducible apply Keeps.drewN | with_reducible apply Keeps.drew | ((with_reducible refine Keeps.set ?_ ?_ _); rotate_left; (focus (first | (simp; done) | (simp; omega)))) | ((with_reducible refine Keeps.setNew ?_ ?_ _); rotate_left; (focus (first | (simp; done) | (simp; omega)))) | with_reducible refine Keeps.call (by assumption) ?_))
                · exact (by (simp only [Locals]; repeat' (first | exact trivial | apply And.intro) <;> go_simp))
                · rw [← Hl.out]; (conv => rhs; unfold lsum; rw [Hs.out]); simp
    · have h8i : 8 < (fs.length : Int) := by omega
      have hr1 : ledOk ⟨cn, cd⟩ fs = false := by unfold ledOk; simp [h8]
      have hr2 : ledSum ⟨cn, cd⟩ fs = Fr.zero := by unfold ledSum; rw [hr1]; rfl
      rw [hr1, hr2]
      clear hr1 hr2 h8
      go_enter Try.func61, Try.ntmps61
      go_wp2_with fail
      refine (iFracOk_c _ _ _).mono ?_; rintro e w1 ⟨rfl, hb1⟩; rw [Hok.out]; have hzw1_0 : w.heap.size < w1.heap.size := (by have hzz := hb1.size; (try simp at hzz); omega); have hzw1_1 : w.heap.size + 1 < w1.heap.size := (by have hzz := hb1.size; (try simp at hzz); omega); have Lw1 := Locals.call hb1 (L := [(⟨w.heap.size, 0, none⟩, .int .i64 cn), (⟨w.heap.size, 1, none⟩, .int .i64 cd), (⟨w.heap.size, 2, none⟩, .slice a fs.length cp), (⟨w.heap.size + 1, 0, none⟩, .int .i64 0), (⟨w.heap.size + 1, 1, none⟩, .int .i64 0)]) (by simp only [Locals]; repeat' (first | exact trivial | apply And.intro) <;> go_simp); obtain ⟨⟨cw1_0, fw1_0⟩, ⟨cw1_1, fw1_1⟩, ⟨cw1_2, fw1_2⟩, ⟨cw1_3, fw1_3⟩, ⟨cw1_4, fw1_4⟩, -⟩ := Lw1
      go_wp2_with fail
      refine bodyPost_ret (v := .tuple #[.agg #[.int .i64 0, .int .i64 0], .bool false]) (by simp only [results, Try.results61]; go_simp) rfl ⟨rfl, (by repeat' (first | with_reducible exact bl_refl _ | with_reducible apply bl_alloc | with_reducible apply bl_drewN | with_reducible apply bl_drew | with_reducible apply bl_set | with_reducible refine bl_call (by assumption) ?_ | (simp; done) | (simp; omega) | omega))⟩

theorem iLedgerOk_c (cap : Fr) (v : Value) (fs : List Fr) (w : World) (hI : FracsAt w v fs) :
    Calls Try.prog 30 #[.agg #[.int .i64 cap.n, .int .i64 cap.d, v]] w fun e w' => e = .returned (.bool (ledOk cap fs)) ∧ Below w.heap.size w w' := by
  have hbx := hI.below (bl_alloc (bl_refl w) (.cells #[.int .i64 cap.n, .int .i64 cap.d, v] 31))
  have Hbx := Lib.hid hbx
  clear hbx
  obtain ⟨a, cp, rfl, -⟩ := hI
  go_enter Try.func30, Try.ntmps30
  go_wp2_with fail
  refine (iLedgerSum_c cap _ _ _ Hbx.out).mono ?_; rintro e w1 ⟨rfl, hb1⟩; simp only [Fr.v]
  go_wp2_with fail
  go_ret
  exact ⟨rfl, (by repeat' (first | with_reducible exact bl_refl _ | with_reducible apply bl_alloc | with_reducible apply bl_drewN | with_reducible apply bl_drew | with_reducible apply bl_set | with_reducible refine bl_call (by assumption) ?_ | (simp; done) | (simp; omega) | omega))⟩

end Go.Proofs.Ytfebbpihcngjoaa
