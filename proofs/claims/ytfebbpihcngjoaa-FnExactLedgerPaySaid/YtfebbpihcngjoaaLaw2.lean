/- The law's helpers over fraction lists: equal, mark, held, size. -/
import Derived.Test.YtfebbpihcngjoaaLaw1
namespace Go.Proofs.Ytfebbpihcngjoaa
open Go.RowKit
set_option linter.unusedVariables false
set_option linter.unusedSimpArgs false

theorem eqFs_len : ∀ {a b : List Fr}, a.length ≠ b.length → eqFs a b = false
  | [], [], h => absurd rfl h
  | [], _ :: _, _ => rfl
  | _ :: _, [], _ => rfl
  | f :: r, g :: s, h => by simp [eqFs, eqFs_len (a := r) (b := s) (by simpa using h)]

set_option maxRecDepth 20000 in
set_option maxHeartbeats 2000000 in
theorem eqFracS_c (v1 v2 : Value) (fs gs : List Fr) (w : World) (h1 : FracsAt w v1 fs) (h2 : FracsAt w v2 gs) (hn : fs.length ≤ 4000000) :
    Calls Try.prog 35 #[v1, v2] w fun e w' => e = .returned (.bool (eqFs fs gs)) ∧ Below w.heap.size w w' := by
  obtain ⟨a1, cap1, rfl, hcap1, hc1⟩ := h1
  obtain ⟨a2, cap2, rfl, hcap2, hc2⟩ := h2
  by_cases hlen : fs.length = gs.length
  · rw [← hlen] at hcap2 ⊢
    have Hlen := Lib.hid hlen
    clear hlen
    go_enter Try.func35, Try.ntmps35
    go_wp2_with fail
    go_loopg [5] (fs.length + 1) (fun m i wr => ∃ (k : Nat), k + m = fs.length + 1 ∧ k ≤ fs.length ∧ i = .int .i64 k ∧ Below w.heap.size w wr ∧ eqFs (fs.drop k) (gs.drop k) = eqFs fs gs)
    case atStart => exact ⟨0, by omega, by omega, rfl, (by repeat' (first | with_reducible exact bl_refl _ | with_reducible apply bl_alloc | with_reducible apply bl_drewN | with_reducible apply bl_drew | with_reducible apply bl_set | with_reducible refine bl_call (by assumption) ?_ | (simp; done) | (simp; omega) | omega)), rfl⟩
    case round =>
      obtain ⟨k, hm, hk, rfl, hB, hl⟩ := hrel
      have Hl := Lib.hid hl
      clear hl
      by_cases hlt : k < fs.length
      · have hlt2 : k < gs.length := by rw [← Hlen.out]; exact hlt
        obtain ⟨b1, off1, rfl, hcs1⟩ := hc1.resolve_left (by intro e; subst e; simp at hlt)
        obtain ⟨b2, off2, rfl, hcs2⟩ := hc2.resolve_left (by intro e; subst e; simp at hlt2)
        obtain ⟨e1, e2⟩ := hcs1 k fs[k] (List.getElem?_eq_getElem hlt)
        obtain ⟨e3, e4⟩ := hcs2 k gs[k] (List.getElem?_eq_getElem hlt2)
        have hd1 : fs.drop k = fs[k] :: fs.drop (k + 1) := List.drop_eq_getElem_cons hlt
        have hd2 : gs.drop k = gs[k] :: gs.drop (k + 1) := List.drop_eq_getElem_cons hlt2
        have Hd1 := Lib.hid hd1
        have Hd2 := Lib.hid hd2
        clear hd1 hd2 hc1 hc2 hcs1 hcs2
        generalize fs[k] = f at *
        generalize gs[k] = g at *
        have hq1 := lt_of_cell e1
        have hq2 := lt_of_cell e3
        have hsz := hB.size
        simp only at hq1 hq2
        have g1 := (hB.cell (p := ⟨b1, off1 + k * 2, none⟩) hq1).trans e1
        have g2 := (hB.cell (p := ⟨b1, off1 + k * 2 + 1, none⟩) hq1).trans e2
        have g3 := (hB.cell (p := ⟨b2, off2 + k * 2, none⟩) hq2).trans e3
        have g4 := (hB.cell (p := ⟨b2, off2 + k * 2 + 1, none⟩) hq2).trans e4
        clear e1 e2 e3 e4
        have hki : (k : Int) < fs.length := by omega
        cases hs : f.eqb g
        · have Hs := Lib.hid hs
          clear hs
          go_wp2_with fail
          go_region_held3 (fun w' => w'.cell? ⟨b1, off1 + k * 2, none⟩ = some (.int .i64 f.n) ∧ w'.cell? ⟨b1, off1 + k * 2 + 1, none⟩ = some (.int .i64 f.d) ∧ w'.cell? ⟨b2, off2 + k * 2, none⟩ = some (.int .i64 g.n) ∧ w'.cell? ⟨b2, off2 + k * 2 + 1, none⟩ = some (.int .i64 g.d)) (go_keep)
            (first | (go_at_call 34; refine (eqFrac_c f g _).mono ?_; rintro e w1 ⟨rfl, hb1⟩; rw [Hs.out]; (have hzw1_0 : b1 < w1.heap.size := (by have hzz := hb1.size; (try simp at hzz); omega); have hzw1_1 : b2 < w1.heap.size := (by have hzz := hb1.size; (try simp at hzz); omega); have Kw1 := CellsL.call hb1 (L := [(⟨b1, off1 + k * 2, none⟩, .int .i64 f.n), (⟨b1, off1 + k * 2 + 1, none⟩, .int .i64 f.d), (⟨b2, off2 + k * 2, none⟩, .int .i64 g.n), (⟨b2, off2 + k * 2 + 1, none⟩, .int .i64 g.d)]) (by simp only [CellsL]; repeat' (first | exact trivial | apply And.intro) <;> go_simp); obtain ⟨dw1_0, dw1_1, dw1_2, dw1_3, -⟩ := Kw1)))
          all_goals
            go_wp2_with fail
            go_ret
            exact ⟨by rw [← Hl.out, Hd1.out, Hd2.out]; simp [eqFs, Hs.out], (by repeat' (first | with_reducible exact bl_refl _ | with_reducible apply bl_alloc | with_reducible apply bl_drewN | with_reducible apply bl_drew | with_reducible apply bl_set | with_reducible refine bl_call (by assumption) ?_ | (simp; done) | (simp; omega) | omega))⟩
        · have Hs := Lib.hid hs
          clear hs
          go_wp2_with fail
          go_region_held3 (fun w' => w'.cell? ⟨b1, off1 + k * 2, none⟩ = some (.int .i64 f.n) ∧ w'.cell? ⟨b1, off1 + k * 2 + 1, none⟩ = some (.int .i64 f.d) ∧ w'.cell? ⟨b2, off2 + k * 2, none⟩ = some (.int .i64 g.n) ∧ w'.cell? ⟨b2, off2 + k * 2 + 1, none⟩ = some (.int .i64 g.d)) (go_keep)
            (first | (go_at_call 34; refine (eqFrac_c f g _).mono ?_; rintro e w1 ⟨rfl, hb1⟩; rw [Hs.out]; (have hzw1_0 : b1 < w1.heap.size := (by have hzz := hb1.size; (try simp at hzz); omega); have hzw1_1 : b2 < w1.heap.size := (by have hzz := hb1.size; (try simp at hzz); omega); have Kw1 := CellsL.call hb1 (L := [(⟨b1, off1 + k * 2, none⟩, .int .i64 f.n), (⟨b1, off1 + k * 2 + 1, none⟩, .int .i64 f.d), (⟨b2, off2 + k * 2, none⟩, .int .i64 g.n), (⟨b2, off2 + k * 2 + 1, none⟩, .int .i64 g.d)]) (by simp only [CellsL]; repeat' (first | exact trivial | apply And.intro) <;> go_simp); obtain ⟨dw1_0, dw1_1, dw1_2, dw1_3, -⟩ := Kw1)))
          all_goals
            go_wp2_with fail
            go_roundg (gk - 1)
            case measure => omega
            case rel => exact ⟨k + 1, by omega, by omega, by go_num, (by repeat' (first | with_reducible exact bl_refl _ | with_reducible apply bl_alloc | with_reducible apply bl_drewN | with_reducible apply bl_drew | with_reducible apply bl_set | with_reducible refine bl_call (by assumption) ?_ | (simp; done) | (simp; omega) | omega)), by rw [← Hl.out, Hd1.out, Hd2.out]; simp [eqFs, Hs.out]⟩
      · obtain rfl : k = fs.length := by omega
        have hr : eqFs fs gs = true := by rw [← Hl.out]; simp [eqFs]; rw [Hlen.out]; simp [eqFs]
        have Hr := Lib.hid hr
        clear hr
        go_wp2_with fail
        go_ret
        exact ⟨by rw [Hr.out]; rfl, (by repeat' (first | with_reducible exact bl_refl _ | with_reducible apply bl_alloc | with_reducible apply bl_drewN | with_reducible apply bl_drew | with_reducible apply bl_set | with_reducible refine bl_call (by assumption) ?_ | (simp; done) | (simp; omega) | omega))⟩
  · rw [eqFs_len hlen]
    have hne : ¬ ((fs.length : Int) = gs.length) := by omega
    go_enter Try.func35, Try.ntmps35
    go_wp2_with fail
    go_ret
    exact ⟨rfl, (by repeat' (first | with_reducible exact bl_refl _ | with_reducible apply bl_alloc | with_reducible apply bl_drewN | with_reducible apply bl_drew | with_reducible apply bl_set | with_reducible refine bl_call (by assumption) ?_ | (simp; done) | (simp; omega) | omega))⟩

def markF (m : Int) (n : Nat) : List Fr := (List.range n).map fun (i : Nat) => ⟨m + 2 * (i : Int), m + 2 * (i : Int) + 1⟩
theorem markF_length (m : Int) (n : Nat) : (markF m n).length = n := by simp [markF]
theorem markF_at (m : Int) {n i : Nat} (h : i < n) : (markF m n)[i]? = some ⟨m + 2 * i, m + 2 * i + 1⟩ := by simp [markF, h]

theorem OwnFr.block {w : World} {B : Nat} {a : Option Addr} {n cap : Nat} {L : List Fr} (h : OwnFr w B (.slice a n cap) L) (hne : L ≠ []) : ∃ b, a = some ⟨b, 0, none⟩ ∧ B ≤ b := by
  obtain ⟨a', cap', e, hl, h0, h⟩ := h
  injection e with e1 e2 e3
  subst e1
  obtain ⟨b, eb, hB, _⟩ := h.resolve_left hne
  exact ⟨b, eb, hB⟩

/-- nothing but v's own block is another (nothing at all, where v is empty) -/
def Other (v : Value) (L : List Fr) (w w' : World) : Prop := w'.heap.size = w.heap.size ∧ ∀ p : Addr, (L ≠ [] → v.ownBlock ≠ some p.block) → w'.cell? p = w.cell? p ∧ w'.frozen? p = w.frozen? p
theorem Other.refl (v : Value) (L : List Fr) (w : World) : Other v L w w := ⟨rfl, fun _ _ => ⟨rfl, rfl⟩⟩
theorem Other.trans {v : Value} {L : List Fr} {a b c : World} (h : Other v L a b) (k : Other v L b c) : Other v L a c := ⟨k.1.trans h.1, fun p hp => ⟨(k.2 p hp).1.trans (h.2 p hp).1, (k.2 p hp).2.trans (h.2 p hp).2⟩⟩
theorem Other.set {w : World} {L : List Fr} (hne : L ≠ []) {b n cap o : Nat} (u : Value) : Other (.slice (some ⟨b, 0, none⟩) n cap) L w (w.setCell ⟨b, o, none⟩ u) :=
  ⟨by simp, fun p hp => ⟨World.cell?_setCell_other _ _ _ _ (fun e => hp hne (by rw [← e]; rfl)), World.frozen?_setCell _ _ _ _⟩⟩
theorem OwnFr.rng {w : World} {B : Nat} {v : Value} {L : List Fr} (h : OwnFr w B v L) (hne : L ≠ []) : ∀ b, v.ownBlock = some b → B ≤ b ∧ b < w.heap.size := by
  obtain ⟨a, cap, rfl, hl, h0, h⟩ := h
  obtain ⟨b, rfl, hB, hc⟩ := h.resolve_left hne
  intro b' e
  have e' : b = b' := by simpa [Value.ownBlock] using e
  subst e'
  have hp : 0 < L.length := by cases L with | nil => exact absurd rfl hne | cons => simp
  obtain ⟨⟨h1, _⟩, _⟩ := hc 0 L[0] (List.getElem?_eq_getElem hp)
  exact ⟨hB, lt_of_cell h1⟩
/-- what is kept of its own block keeps it -/
theorem OwnFr.keep {w w' : World} {B : Nat} {v : Value} {L : List Fr} (h : OwnFr w B v L) (hk : ∀ p : Addr, B ≤ p.block → p.block < w.heap.size → v.ownBlock = some p.block → w'.cell? p = w.cell? p ∧ w'.frozen? p = w.frozen? p) : OwnFr w' B v L := by
  obtain ⟨a, cap, rfl, hl, h0, h⟩ := h
  refine ⟨a, cap, rfl, hl, h0, h.imp id fun ⟨b, e2, hB, hc⟩ => ⟨b, e2, hB, fun i f hf => ?_⟩⟩
  subst e2
  obtain ⟨⟨h1, h2⟩, h3, h4⟩ := hc i f hf
  have k1 := hk ⟨b, i * 2, none⟩ hB (lt_of_cell h1) rfl
  have k2 := hk ⟨b, i * 2 + 1, none⟩ hB (lt_of_cell h3) rfl
  exact ⟨⟨k1.1.trans h1, k1.2.trans h2⟩, k2.1.trans h3, k2.2.trans h4⟩

theorem markF_succ (m : Int) (n : Nat) : markF m (n + 1) = markF m n ++ [⟨m + 2 * (n : Int), m + 2 * (n : Int) + 1⟩] := by simp [markF, List.range_succ]

set_option maxRecDepth 20000 in
set_option maxHeartbeats 2000000 in
theorem markFracS_c (v : Value) (L₀ : List Fr) (m : Int) (B : Nat) (w : World) (h : OwnFr w B v L₀) (hn : L₀.length ≤ 4000000) (hm0 : 0 ≤ m) (hm1 : m ≤ 1000000000000) :
    Calls Try.prog 36 #[v, .int .i64 m] w fun e w' => e = .returned (.int .i64 (m + 2 * (L₀.length : Int))) ∧ OwnFr w' B v (markF m L₀.length) ∧ Below B w w' ∧ Other v L₀ w w' := by
  obtain ⟨a, cap, rfl, hcap, h0⟩ := h.form
  have Hown := Lib.hid h
  clear h
  go_enter Try.func36, Try.ntmps36
  go_wp2_with fail
  go_loopg [1, 5] (L₀.length + 1) (fun gm t i wr => ∃ (k : Nat) (L : List Fr), k + gm = L₀.length + 1 ∧ k ≤ L₀.length ∧ t = .int .i64 (m + 2 * (k : Int)) ∧ i = .int .i64 k ∧ Below B w wr ∧ Other (.slice a L₀.length cap) L₀ w wr ∧ L.length = L₀.length ∧
    (∀ j, j < k → L[j]? = some ⟨m + 2 * (j : Int), m + 2 * (j : Int) + 1⟩) ∧ OwnFr wr B (.slice a L₀.length cap) L)
  case atStart => exact ⟨0, L₀, by omega, by omega, by go_num, rfl, Below.refl _ _, Other.refl _ _ _, rfl, by omega, Hown.out⟩
  case round =>
    obtain ⟨k, L, hm, hk, rfl, rfl, hB, hO, hL, hpre, hown⟩ := hrel
    have Hpre := Lib.hid hpre
    have HL := Lib.hid hL
    have Hown := Lib.hid hown
    have HB := Lib.hid hB
    have HO := Lib.hid hO
    clear hpre hown hL hB hO
    by_cases hlt : k < L₀.length
    · have hkL : k < L.length := by rw [HL.out]; exact hlt
      have hL0 : L₀ ≠ [] := by rintro rfl; simp at hlt
      obtain ⟨b, rfl, hBb⟩ := Hown.out.block (by rintro rfl; simp at hkL)
      have hki : (k : Int) < L₀.length := by omega
      obtain ⟨⟨o1, o2⟩, o3, o4⟩ := Hown.out.at hkL
      have Hown1 := Lib.hid (Hown.out.store hkL ⟨m + 2 * (k : Int), m + 2 * (k : Int) + 1⟩)
      generalize L[k] = g at *
      go_wp2_with fail
      go_roundg (gk - 1)
      case measure => omega
      case rel => 
        refine ⟨k + 1, L.set k ⟨m + 2 * (k : Int), m + 2 * (k : Int) + 1⟩, by omega, by omega, by go_num, by go_num, ?_, ?_, by rw [List.length_set]; exact HL.out, ?_, Hown1.out⟩
        · exact ((HB.out.setCell hBb _).setCell hBb _)
        · exact HO.out.trans ((Other.set hL0 _).trans (Other.set hL0 _))
        · intro j hj
          rw [List.getElem?_set]
          by_cases hjk : k = j
          · subst hjk; rw [if_pos rfl, if_pos hkL]
          · rw [if_neg hjk]; exact Hpre.out j (by omega)
    · obtain rfl : k = L₀.length := by omega
      have hLf : L = markF m L₀.length := List.ext_getElem? fun j => by
        rcases Nat.lt_or_ge j L₀.length with h | h
        · rw [markF_at m h]; exact Hpre.out j h
        · rw [List.getElem?_eq_none (by rw [HL.out]; exact h), List.getElem?_eq_none (by rw [markF_length]; exact h)]
      subst hLf
      go_wp2_with fail
      go_ret
      exact ⟨rfl, Hown.out, HB.out, HO.out⟩

set_option maxRecDepth 20000 in
set_option maxHeartbeats 2000000 in
theorem heldFracS_c (v : Value) (n : Nat) (m : Int) (w : World) (h : FracsAt w v (markF m n)) (hn : n ≤ 4000000) (hm0 : 0 ≤ m) (hm1 : m ≤ 1000000000000) :
    Calls Try.prog 37 #[v, .int .i64 m] w fun e w' => e = .returned (.int .i64 (m + 2 * (n : Int))) ∧ w' = w := by
  obtain ⟨a, cap, rfl, hcap, hc⟩ := h
  rw [markF_length] at hcap
  rw [markF_length]
  go_enter Try.func37, Try.ntmps37
  go_wp2_with fail
  go_loopg [1, 5] (n + 1) (fun gm t i wr => ∃ (k : Nat), k + gm = n + 1 ∧ k ≤ n ∧ t = .int .i64 (m + 2 * (k : Int)) ∧ i = .int .i64 k ∧ wr = w)
  case atStart => exact ⟨0, by omega, by omega, by go_num, rfl, rfl⟩
  case round =>
    obtain ⟨k, hm, hk, rfl, rfl, rfl⟩ := hrel
    by_cases hlt : k < n
    · obtain ⟨b, off, rfl, hc'⟩ := hc.resolve_left (by intro e; have := congrArg List.length e; rw [markF_length] at this; simp at this; omega)
      obtain ⟨e1, e2⟩ := hc' k _ (markF_at m hlt)
      clear hc hc'
      simp only at e1 e2
      have hki : (k : Int) < n := by omega
      go_wp2_with fail
      go_roundg (gk - 1)
      case measure => omega
      case rel => exact ⟨k + 1, by omega, by omega, by go_num, by go_num, rfl⟩
    · obtain rfl : k = n := by omega
      go_wp2_with fail
      go_ret
      exact ⟨rfl, rfl⟩

theorem szFracS_c (a : Option Addr) (n cap : Nat) (s : Int) (w : World) (h0 : 0 ≤ s) (h1 : s ≤ 1000000000000) (hn : n ≤ 9223372036854775807) :
    Calls Try.prog 25 #[.slice a n cap, .int .i64 s] w fun e w' => e = .returned (.int .i64 (if s < n then -1 else s - n)) ∧ w' = w := by
  by_cases h : s < n
  · rw [if_pos h]
    go_enter Try.func25, Try.ntmps25
    go_wp2
    go_ret
    exact ⟨rfl, rfl⟩
  · rw [if_neg h]
    go_enter Try.func25, Try.ntmps25
    go_wp2
    go_ret
    exact ⟨rfl, rfl⟩

end Go.Proofs.Ytfebbpihcngjoaa
