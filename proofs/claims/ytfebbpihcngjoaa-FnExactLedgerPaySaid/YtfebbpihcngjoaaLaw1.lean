/- The law's helpers over fractions. -/
import Derived.Test.YtfebbpihcngjoaaSPay
namespace Go.Proofs.Ytfebbpihcngjoaa
open Go.RowKit
set_option linter.unusedVariables false
set_option linter.unusedSimpArgs false

def Fr.eqb (f g : Fr) : Bool := decide (f.n = g.n) && decide (f.d = g.d)
theorem Fr.eqb_self (f : Fr) : f.eqb f = true := by simp [Fr.eqb]
def eqFs : List Fr → List Fr → Bool
  | [], [] => true
  | f :: r, g :: s => f.eqb g && eqFs r s
  | _, _ => false
theorem eqFs_self : ∀ l : List Fr, eqFs l l = true
  | [] => rfl
  | f :: r => by simp [eqFs, Fr.eqb_self, eqFs_self r]

theorem toFrac_c (n d : Int) (w : World) :
    Calls Try.prog 9 #[.agg #[.int .i64 n, .int .i64 d]] w fun e w' => e = .returned (.agg #[.int .i64 n, .int .i64 d]) ∧ Below w.heap.size w w' := by
  go_enter Try.func9, Try.ntmps9
  go_wp2_with fail
  refine bodyPost_ret (v := .agg #[.int .i64 n, .int .i64 d]) (by simp only [results, Try.results9]; go_simp) rfl ⟨rfl, (by repeat' (first | with_reducible exact bl_refl _ | with_reducible apply bl_alloc | with_reducible apply bl_drewN | with_reducible apply bl_drew | with_reducible apply bl_set | with_reducible refine bl_call (by assumption) ?_ | (simp; done) | (simp; omega) | omega))⟩

theorem eqFrac_c (f g : Fr) (w : World) :
    Calls Try.prog 34 #[.agg #[.int .i64 f.n, .int .i64 f.d], .agg #[.int .i64 g.n, .int .i64 g.d]] w fun e w' => e = .returned (.bool (f.eqb g)) ∧ Below w.heap.size w w' := by
  obtain ⟨fn, fd⟩ := f
  obtain ⟨gn, gd⟩ := g
  by_cases h1 : fn = gn
  · by_cases h2 : fd = gd
    · have hr : Fr.eqb ⟨fn, fd⟩ ⟨gn, gd⟩ = true := by simp [Fr.eqb, h1, h2]
      rw [hr]
      go_enter Try.func34, Try.ntmps34
      go_wp2
      go_ret
      exact ⟨rfl, (by repeat' (first | with_reducible exact bl_refl _ | with_reducible apply bl_alloc | with_reducible apply bl_drewN | with_reducible apply bl_drew | with_reducible apply bl_set | with_reducible refine bl_call (by assumption) ?_ | (simp; done) | (simp; omega) | omega))⟩
    · have hr : Fr.eqb ⟨fn, fd⟩ ⟨gn, gd⟩ = false := by simp [Fr.eqb, h1, h2]
      rw [hr]
      go_enter Try.func34, Try.ntmps34
      go_wp2
      go_ret
      exact ⟨rfl, (by repeat' (first | with_reducible exact bl_refl _ | with_reducible apply bl_alloc | with_reducible apply bl_drewN | with_reducible apply bl_drew | with_reducible apply bl_set | with_reducible refine bl_call (by assumption) ?_ | (simp; done) | (simp; omega) | omega))⟩
  · have hr : Fr.eqb ⟨fn, fd⟩ ⟨gn, gd⟩ = false := by simp [Fr.eqb, h1]
    rw [hr]
    go_enter Try.func34, Try.ntmps34
    go_wp2
    go_ret
    exact ⟨rfl, (by repeat' (first | with_reducible exact bl_refl _ | with_reducible apply bl_alloc | with_reducible apply bl_drewN | with_reducible apply bl_drew | with_reducible apply bl_set | with_reducible refine bl_call (by assumption) ?_ | (simp; done) | (simp; omega) | omega))⟩

theorem madeAt {m j : Nat} (h : j < m) : (madeCells #[.int .i64 0, .int .i64 0] m)[j]? = some (.int .i64 0) := by
  rw [Array.getElem?_eq_getElem (by rw [size_madeCells]; exact h)]
  simp only [madeCells, Array.getElem_map, Array.getElem_range]
  rcases Nat.mod_two_eq_zero_or_one j with e | e <;> simp [e]

theorem OwnFr.made {w : World} {t : TypeId} (n : Nat) : OwnFr (w.alloc (.cells (madeCells #[.int .i64 0, .int .i64 0] (n * 2)) t)) w.heap.size (.slice (some ⟨w.heap.size, 0, none⟩) n n) (List.replicate n Fr.zero) := by
  refine ⟨_, n, by rw [List.length_replicate], by simp, fun e => (by cases e), .inr ⟨w.heap.size, rfl, Nat.le_refl _, fun i f hf => ?_⟩⟩
  have hi : i < n := by have := (List.getElem?_eq_some_iff.1 hf).1; simpa using this
  have he : f = Fr.zero := by obtain ⟨_, h2⟩ := List.getElem?_eq_some_iff.1 hf; rw [← h2]; simp
  subst he
  have hg := heap_alloc_new w (.cells (madeCells #[.int .i64 0, .int .i64 0] (n * 2)) t)
  have c0 := cell_of_row _ _ (i * 2) _ _ _ hg
  have c1 := cell_of_row _ _ (i * 2 + 1) _ _ _ hg
  rw [madeAt (by omega)] at c0 c1
  exact ⟨⟨c0, frozen_of_row _ _ _ _ _ hg⟩, ⟨c1, frozen_of_row _ _ _ _ _ hg⟩⟩

theorem OwnFr.store {w : World} {B b n cap k : Nat} {L : List Fr} (h : OwnFr w B (.slice (some ⟨b, 0, none⟩) n cap) L) (hk : k < L.length) (f : Fr) :
    OwnFr ((w.setCell ⟨b, k * 2, none⟩ (.int .i64 f.n)).setCell ⟨b, k * 2 + 1, none⟩ (.int .i64 f.d)) B (.slice (some ⟨b, 0, none⟩) n cap) (L.set k f) := by
  obtain ⟨a, cap', e, hl, h0, h⟩ := h
  injection e with e1 e2 e3
  subst e1 e2 e3
  refine ⟨_, cap, by rw [List.length_set], by rw [List.length_set]; exact hl, fun e => (by cases e), .inr ?_⟩
  obtain ⟨b', eb, hB, hc⟩ := h.resolve_left (by rintro rfl; simp at hk)
  injection eb with eb
  injection eb with eb
  subst eb
  refine ⟨b, rfl, hB, fun i g hg => ?_⟩
  rw [List.getElem?_set] at hg
  rw [World.frozen?_setCell, World.frozen?_setCell, World.frozen?_setCell, World.frozen?_setCell]
  obtain ⟨⟨k1, k2⟩, k3, k4⟩ := hc k L[k] (List.getElem?_eq_getElem hk)
  by_cases hik : k = i
  · subst hik
    rw [if_pos rfl, if_pos hk] at hg
    cases hg
    refine ⟨⟨?_, k2⟩, ?_, k4⟩
    · rw [World.cell?_setCell_other _ _ _ _ (by simp)]
      exact World.cell?_setCell_same _ _ _ k1
    · exact World.cell?_setCell_same _ _ _ (by rw [World.cell?_setCell_other _ _ _ _ (by simp)]; exact k3)
  · rw [if_neg hik] at hg
    obtain ⟨⟨h1, h2⟩, h3, h4⟩ := hc i g hg
    rw [World.cell?_setCell_other _ _ _ _ (by first | omega | (simp; done) | (simp; omega)), World.cell?_setCell_other _ _ _ _ (by first | omega | (simp; done) | (simp; omega)), World.cell?_setCell_other _ _ _ _ (by first | omega | (simp; done) | (simp; omega)), World.cell?_setCell_other _ _ _ _ (by first | omega | (simp; done) | (simp; omega))]
    exact ⟨⟨h1, h2⟩, h3, h4⟩

theorem OwnFr.at {w : World} {B b n cap k : Nat} {L : List Fr} (h : OwnFr w B (.slice (some ⟨b, 0, none⟩) n cap) L) (hk : k < L.length) :
    (w.cell? ⟨b, k * 2, none⟩ = some (.int .i64 L[k].n) ∧ w.frozen? ⟨b, k * 2, none⟩ = false) ∧ (w.cell? ⟨b, k * 2 + 1, none⟩ = some (.int .i64 L[k].d) ∧ w.frozen? ⟨b, k * 2 + 1, none⟩ = false) := by
  obtain ⟨a, cap', e, hl, h0, h⟩ := h
  injection e with e1 e2 e3
  subst e1 e2 e3
  obtain ⟨b', eb, hB, hc⟩ := h.resolve_left (by rintro rfl; simp at hk)
  injection eb with eb
  injection eb with eb
  subst eb
  exact hc k L[k] (List.getElem?_eq_getElem hk)

theorem makeFrac (n : Nat) (hn : n ≤ 4000000) (w : World) : (Instr.makeSlice 29 (.int .i64 (n : Int)) (.int .i64 (n : Int))).run Try.prog w = .ok (.slice (some ⟨w.heap.size, 0, none⟩) n n) (w.alloc (.cells (madeCells #[.int .i64 0, .int .i64 0] (n * 2)) 28)) := by
  obtain ⟨i0, hi, hz0, hz1, hz2⟩ := info_parts Try.infoFrac
  have h := run_make (P := Try.prog) w 29 28 i0 _ Try.underlying29 hi hz0 .i64 .i64 n n (by omega) (by omega) (by rw [hz2]; omega) (by omega)
  rw [hz1] at h
  exact h

set_option maxRecDepth 20000 in
set_option maxHeartbeats 2000000 in
theorem toFracS_c (v : Value) (fs : List Fr) (w : World) (hI : FracsAt w v fs) (hn : fs.length ≤ 2000000) :
    Calls Try.prog 29 #[v] w fun e w' => ∃ v', e = .returned v' ∧ OwnFr w' w.heap.size v' fs ∧ Below w.heap.size w w' := by
  obtain ⟨a, cap, rfl, hcap, hcs⟩ := id hI
  have hmk := makeFrac fs.length (by omega)
  have hmade := OwnFr.made (w := w) (t := 28) fs.length
  have Hmade := Lib.hid hmade
  clear hmade
  go_enter Try.func29, Try.ntmps29
  go_wp2_with fail
  go_loopg [4] (fs.length + 1) (fun m i wr => ∃ (k : Nat) (L : List Fr), k + m = fs.length + 1 ∧ k ≤ fs.length ∧ i = .int .i64 k ∧ Below w.heap.size w wr ∧ w.heap.size < wr.heap.size ∧ L.length = fs.length ∧ (∀ j, j < k → L[j]? = fs[j]?) ∧
    OwnFr wr w.heap.size (.slice (some ⟨w.heap.size, 0, none⟩) fs.length fs.length) L)
  case atStart => exact ⟨0, List.replicate fs.length Fr.zero, by omega, by omega, rfl, (by repeat' (first | with_reducible exact bl_refl _ | with_reducible apply bl_alloc | with_reducible apply bl_drewN | with_reducible apply bl_drew | with_reducible apply bl_set | with_reducible refine bl_call (by assumption) ?_ | (simp; done) | (simp; omega) | omega)), by simp, by simp, by omega, Hmade.out⟩
  case round =>
    obtain ⟨k, L, hm, hk, rfl, hB, hz, hL, hpre, hown⟩ := hrel
    have Hpre := Lib.hid hpre
    have HL := Lib.hid hL
    have Hown := Lib.hid hown
    clear hpre hown hL
    by_cases hlt : k < fs.length
    · obtain ⟨b, off, rfl, hcs'⟩ := hcs.resolve_left (by intro e; subst e; simp at hlt)
      obtain ⟨e1, e2⟩ := hcs' k fs[k] (List.getElem?_eq_getElem hlt)
      have hfk : fs[k]? = some fs[k] := List.getElem?_eq_getElem hlt
      have Hfk := Lib.hid hfk
      clear hfk hcs hcs'
      generalize fs[k] = f at *
      have hbl := lt_of_cell e1
      simp only at hbl
      have g1 := (hB.cell (p := ⟨b, off + k * 2, none⟩) hbl).trans e1
      have g2 := (hB.cell (p := ⟨b, off + k * 2 + 1, none⟩) hbl).trans e2
      clear e1 e2
      have hki : (k : Int) < fs.length := by omega
      have hkL : k < L.length := by rw [HL.out]; exact hlt
      obtain ⟨⟨o1, o2⟩, o3, o4⟩ := Hown.out.at hkL
      generalize L[k] = g at *
      go_wp2_with fail
      refine (toFrac_c _ _ _).mono ?_; rintro e w1 ⟨rfl, hb1⟩; have hzw1_0 : w.heap.size < w1.heap.size := (by have hzz := hb1.size; (try simp at hzz); omega); have Lw1 := Locals.call hb1 (L := [(⟨w.heap.size, k * 2, none⟩, .int .i64 g.n), (⟨w.heap.size, k * 2 + 1, none⟩, .int .i64 g.d)]) (by simp only [Locals]; repeat' (first | exact trivial | apply And.intro) <;> go_simp); obtain ⟨⟨cw1_0, fw1_0⟩, ⟨cw1_1, fw1_1⟩, -⟩ := Lw1
      have Hown1 := Lib.hid ((Hown.out.below hb1).store hkL f)
      go_wp2_with fail
      go_roundg (gk - 1)
      case measure => omega
      case rel => 
        refine ⟨k + 1, L.set k f, by omega, by omega, by go_num, (by repeat' (first | with_reducible exact bl_refl _ | with_reducible apply bl_alloc | with_reducible apply bl_drewN | with_reducible apply bl_drew | with_reducible apply bl_set | with_reducible refine bl_call (by assumption) ?_ | (simp; done) | (simp; omega) | omega)), by simp; omega, by rw [List.length_set]; exact HL.out, ?_, Hown1.out⟩
        intro j hj
        rw [List.getElem?_set]
        by_cases hjk : k = j
        · subst hjk; rw [if_pos rfl, if_pos hkL]; exact Hfk.out.symm
        · rw [if_neg hjk]; exact Hpre.out j (by omega)
    · obtain rfl : k = fs.length := by omega
      have hLf : L = fs := List.ext_getElem? fun j => by
        rcases Nat.lt_or_ge j fs.length with h | h
        · exact Hpre.out j h
        · rw [List.getElem?_eq_none h, List.getElem?_eq_none (by rw [HL.out]; exact h)]
      subst hLf
      go_wp2_with fail
      go_ret
      exact ⟨_, rfl, Hown.out, (by repeat' (first | with_reducible exact bl_refl _ | with_reducible apply bl_alloc | with_reducible apply bl_drewN | with_reducible apply bl_drew | with_reducible apply bl_set | with_reducible refine bl_call (by assumption) ?_ | (simp; done) | (simp; omega) | omega))⟩

end Go.Proofs.Ytfebbpihcngjoaa
