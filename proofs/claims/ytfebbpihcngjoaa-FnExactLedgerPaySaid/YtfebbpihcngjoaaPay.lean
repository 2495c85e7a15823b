/- Copies of ledgers and payments, both sides. -/
import Derived.Test.YtfebbpihcngjoaaLed
import Derived.Laws.AppendOwnNone
import Derived.Lib.SliceRun
namespace Go.Proofs.Ytfebbpihcngjoaa
open Go.RowKit
set_option linter.unusedVariables false
set_option linter.unusedSimpArgs false

def fcells : List Fr → List Value
  | [] => []
  | f :: r => .int .i64 f.n :: .int .i64 f.d :: fcells r
theorem fcells_length : ∀ fs : List Fr, (fcells fs).length = fs.length * 2
  | [] => rfl
  | f :: r => by simp [fcells, fcells_length r]; omega
theorem fcells_append : ∀ a b : List Fr, fcells (a ++ b) = fcells a ++ fcells b
  | [], _ => rfl
  | f :: r, b => by simp [fcells, fcells_append r b]
theorem fcells_one : ∀ fs : List Fr, ∀ u ∈ fcells fs, u.oneCell' = true
  | [], _, h => by cases h
  | f :: r, u, h => by
    simp only [fcells, List.mem_cons] at h
    rcases h with rfl | rfl | h
    · rfl
    · rfl
    · exact fcells_one r u h
theorem fcells_at : ∀ (fs : List Fr) (i : Nat) (f : Fr), fs[i]? = some f → (fcells fs)[i * 2]? = some (.int .i64 f.n) ∧ (fcells fs)[i * 2 + 1]? = some (.int .i64 f.d)
  | [], i, f, h => by simp at h
  | g :: r, 0, f, h => by simp at h; subst h; simp [fcells]
  | g :: r, i + 1, f, h => by
    have := fcells_at r i f (by simpa using h)
    rw [show (i + 1) * 2 = i * 2 + 1 + 1 by omega, show (i * 2 + 1 + 1) + 1 = i * 2 + 1 + 1 + 1 by omega]
    simpa [fcells] using this
theorem fcells_of {fs : List Fr} {j : Nat} {u : Value} (h : (fcells fs)[j]? = some u) : ∃ i f, fs[i]? = some f ∧ ((j = i * 2 ∧ u = .int .i64 f.n) ∨ (j = i * 2 + 1 ∧ u = .int .i64 f.d)) := by
  have hj : j < fs.length * 2 := by rw [← fcells_length]; exact (List.getElem?_eq_some_iff.1 h).1
  have hf : fs[j / 2]? = some fs[j / 2] := List.getElem?_eq_getElem (by omega)
  obtain ⟨h1, h2⟩ := fcells_at fs (j / 2) _ hf
  refine ⟨j / 2, _, hf, ?_⟩
  rcases Nat.mod_two_eq_zero_or_one j with e | e
  · have e1 : j = j / 2 * 2 := by omega
    rw [← e1, h] at h1
    exact .inl ⟨e1, (Option.some.inj h1)⟩
  · have e1 : j = j / 2 * 2 + 1 := by omega
    rw [← e1, h] at h2
    exact .inr ⟨e1, (Option.some.inj h2)⟩

/-- a slice of fractions of the call's own, in a block from B on -/
abbrev OwnF (w : World) (B : Nat) (v : Value) (fs : List Fr) : Prop := w.ownsRow B 28 2 v fs.length (fcells fs)

theorem OwnF.reads {w : World} {B : Nat} {v : Value} {fs : List Fr} (h : OwnF w B v fs) : FracsAt w v fs := by
  have hh := h
  obtain ⟨hl, h | ⟨g, cap, cur, rfl, hB, hg, hn, hm, hs, ht⟩⟩ := h
  · obtain ⟨rfl, hz⟩ := h
    obtain rfl : fs = [] := List.eq_nil_of_length_eq_zero hz
    exact ⟨none, 0, rfl, Nat.le_refl _, .inl rfl⟩
  · refine ⟨_, cap, rfl, hn, .inr ⟨g, 0, rfl, fun i f hf => ?_⟩⟩
    obtain ⟨h1, h2⟩ := fcells_at fs i f hf
    have hi : i < fs.length := (List.getElem?_eq_some_iff.1 hf).1
    have c1 := hh.cellAt (i * 2) (by omega)
    have c2 := hh.cellAt (i * 2 + 1) (by omega)
    exact ⟨by rw [Nat.zero_add, c1]; exact h1, by rw [Nat.zero_add, c2]; exact h2⟩

theorem FracsAt.news {w : World} {a : Addr} {cap : Nat} {fs : List Fr} (h : FracsAt w (.slice (some a) fs.length cap) fs) (hne : fs ≠ []) : ∀ j u, (fcells fs)[j]? = some u → w.cell? (a.add j) = some u := by
  obtain ⟨a', cap', e, hl, h⟩ := h
  obtain ⟨b, off, e2, hc⟩ := h.resolve_left hne
  injection e with e1 _ _
  rw [e2] at e1
  cases e1
  intro j u hj
  obtain ⟨i, f, hf, h | h⟩ := fcells_of hj
  · obtain ⟨rfl, rfl⟩ := h
    have := (hc i f hf).1
    by_cases hz : i * 2 = 0
    · rw [hz]; rw [hz] at this; simpa [Addr.add] using this
    · simpa [Addr.add, hz] using this
  · obtain ⟨rfl, rfl⟩ := h
    have := (hc i f hf).2
    simpa [Addr.add, Nat.add_assoc] using this

theorem Try.infoFrac : (Try.prog.info? 28).map (fun i => (i.zero, i.size, i.bytes)) = some (some (.agg #[.int .i64 0, .int .i64 0]), 2, 16) := by kernel_rfl

theorem cloneF_c (v : Value) (fs : List Fr) (w : World) (hI : FracsAt w v fs) (hn : fs.length ≤ 4000000) :
    Calls Try.prog 64 #[v] w fun e w' => ∃ v', e = .returned v' ∧ OwnF w' w.heap.size v' fs ∧ Below w.heap.size w w' := by
  obtain ⟨a, cap, rfl, hcap, h⟩ := id hI
  obtain ⟨i0, hi, hz0, hz1, hz2⟩ := info_parts Try.infoFrac
  have hq := fun (w : World) (a : Option Addr) (n c : Nat) => Lib.run_eql_slice_nil (P := Try.prog) w 29 28 a n c 0 0 Try.underlying29
  cases a with
  | none =>
    obtain rfl : fs = [] := by
      rcases h with h | ⟨b, off, h, -⟩
      · exact h
      · cases h
    go_enter Try.func64, Try.ntmps64
    go_wp2
    go_ret
    exact ⟨_, rfl, World.ownsRow_nil _ _ _ _, bl_refl _⟩
  | some ad =>
    have hown := World.ownsRow_made (base := w.heap.size) (e := 28) (size := 2) w #[] 0 (Nat.le_refl _) (Nat.zero_le _) rfl
    have hI2 := hI.below (bl_alloc (bl_refl w) (.cells #[] 28))
    have hm : fs.length ≤ maxLen := by unfold maxLen; omega
    by_cases hne : fs = []
    · subst hne
      have hq' := fun (w : World) => hq w (some ad) 0 cap
      simp only [Option.isNone] at hq'
      clear hq
      go_enter Try.func64, Try.ntmps64
      go_wp2_with (at_builtin; refine wpList_append_own _ rfl _ _ 29 rfl w.heap.size 28 i0 (.agg #[.int .i64 0, .int .i64 0]) 2 16 Try.underlying29 hi hz0 hz1 hz2 rfl (by decide) _ 0 [] rfl hown ad 0 cap [] rfl rfl (by intro j u h; cases h) (by intro u h; cases h) (by omega) (by omega) (by simp) ?_; intro v' w1 hown1 hgrow1 _; simp only [Nat.zero_add, List.nil_append] at hown1)
      go_ret
      exact ⟨_, rfl, hown1, (bl_alloc (bl_refl w) _).grown hgrow1 (by simp) (fun k e => by cases e; exact Nat.le_refl _)⟩
    · have hq' := fun (w : World) => hq w (some ad) fs.length cap
      simp only [Option.isNone] at hq'
      clear hq
      go_enter Try.func64, Try.ntmps64
      go_wp2_with (at_builtin; refine wpList_append_own _ rfl _ _ 29 rfl w.heap.size 28 i0 (.agg #[.int .i64 0, .int .i64 0]) 2 16 Try.underlying29 hi hz0 hz1 hz2 rfl (by decide) _ 0 [] rfl hown ad fs.length cap (fcells fs) rfl (fcells_length fs) (hI2.news hne) (fcells_one fs) (by omega) (by omega) (by simp) ?_; intro v' w1 hown1 hgrow1 _; simp only [Nat.zero_add, List.nil_append] at hown1)
      go_ret
      exact ⟨_, rfl, hown1, (bl_alloc (bl_refl w) _).grown hgrow1 (by simp) (fun k e => by cases e; exact Nat.le_refl _)⟩

theorem clipF_c (a : Option Addr) (n cap : Nat) (w : World) (h : n ≤ cap) (hn : n ≤ 4000000) (ha : a = none → n = 0) :
    Calls Try.prog 33 #[.slice a n cap] w fun e w' => e = .returned (.slice a n n) ∧ w = w' := by
  go_enter Try.func33, Try.ntmps33
  go_wp2
  go_ret
  exact ⟨rfl, rfl⟩

/-- a slice of fractions in a block of its own, from B on; its cells may be written -/
def OwnFr (w : World) (B : Nat) (v : Value) (fs : List Fr) : Prop :=
  ∃ a cap, v = .slice a fs.length cap ∧ fs.length ≤ cap ∧ (a = none → fs.length = 0 ∧ cap = 0) ∧ (fs = [] ∨ ∃ b, a = some ⟨b, 0, none⟩ ∧ B ≤ b ∧
    ∀ i f, fs[i]? = some f → (w.cell? ⟨b, i * 2, none⟩ = some (.int .i64 f.n) ∧ w.frozen? ⟨b, i * 2, none⟩ = false) ∧ (w.cell? ⟨b, i * 2 + 1, none⟩ = some (.int .i64 f.d) ∧ w.frozen? ⟨b, i * 2 + 1, none⟩ = false))
theorem OwnFr.reads {w : World} {B : Nat} {v : Value} {fs : List Fr} (h : OwnFr w B v fs) : FracsAt w v fs := by
  obtain ⟨a, cap, e, hl, _, h⟩ := h
  exact ⟨a, cap, e, hl, h.imp id fun ⟨b, e2, _, hc⟩ => ⟨b, 0, e2, fun i f hf => ⟨by rw [Nat.zero_add]; exact (hc i f hf).1.1, by rw [Nat.zero_add]; exact (hc i f hf).2.1⟩⟩⟩
theorem OwnFr.below {w w1 : World} {B : Nat} {v : Value} {fs : List Fr} (h : OwnFr w B v fs) (hb : Below w.heap.size w w1) : OwnFr w1 B v fs := by
  obtain ⟨a, cap, e, hl, h0, h⟩ := h
  refine ⟨a, cap, e, hl, h0, h.imp id fun ⟨b, e2, hB, hc⟩ => ⟨b, e2, hB, fun i f hf => ?_⟩⟩
  obtain ⟨⟨h1, h2⟩, h3, h4⟩ := hc i f hf
  have := lt_of_cell h1
  exact ⟨⟨by rw [hb.cell this]; exact h1, by rw [hb.frozen this]; exact h2⟩, by rw [hb.cell (lt_of_cell h3)]; exact h3, by rw [hb.frozen (lt_of_cell h3)]; exact h4⟩
theorem OwnFr.low {w : World} {B B' : Nat} {v : Value} {fs : List Fr} (h : OwnFr w B v fs) (hB : B' ≤ B) : OwnFr w B' v fs := by
  obtain ⟨a, cap, e, hl, h0, h⟩ := h
  exact ⟨a, cap, e, hl, h0, h.imp id fun ⟨b, e2, hb, hc⟩ => ⟨b, e2, Nat.le_trans hB hb, hc⟩⟩
theorem OwnF.fr {w : World} {B : Nat} {v : Value} {fs : List Fr} (h : OwnF w B v fs) : OwnFr w B v fs := by
  have hh := h
  obtain ⟨hl, h | ⟨g, cap, cur, rfl, hB, hg, hn, hm, hs, ht⟩⟩ := h
  · obtain ⟨rfl, hz⟩ := h
    obtain rfl : fs = [] := List.eq_nil_of_length_eq_zero hz
    exact ⟨none, 0, rfl, Nat.le_refl _, fun _ => ⟨rfl, rfl⟩, .inl rfl⟩
  · refine ⟨_, cap, rfl, hn, fun e => by (cases e), .inr ⟨g, rfl, hB, fun i f hf => ?_⟩⟩
    obtain ⟨h1, h2⟩ := fcells_at fs i f hf
    have hi : i < fs.length := (List.getElem?_eq_some_iff.1 hf).1
    exact ⟨⟨by rw [hh.cellAt (i * 2) (by omega)]; exact h1, hh.frozenAt _⟩, by rw [hh.cellAt (i * 2 + 1) (by omega)]; exact h2, hh.frozenAt _⟩
theorem OwnFr.set {w : World} {B : Nat} {v : Value} {fs : List Fr} (h : OwnFr w B v fs) {x : Addr} (hx : x.block < B) (u : Value) : OwnFr (w.setCell x u) B v fs := by
  obtain ⟨a, cap, e, hl, h0, h⟩ := h
  refine ⟨a, cap, e, hl, h0, h.imp id fun ⟨b, e2, hB, hc⟩ => ⟨b, e2, hB, fun i f hf => ?_⟩⟩
  obtain ⟨⟨h1, h2⟩, h3, h4⟩ := hc i f hf
  have hne : ∀ o, x ≠ ⟨b, o, none⟩ := fun o e => by rw [e] at hx; simp at hx; omega
  rw [World.cell?_setCell_other _ _ _ _ (hne _), World.cell?_setCell_other _ _ _ _ (hne _), World.frozen?_setCell, World.frozen?_setCell]
  exact ⟨⟨h1, h2⟩, h3, h4⟩
theorem OwnFr.alloc {w : World} {B : Nat} {v : Value} {fs : List Fr} (h : OwnFr w B v fs) (o : Obj) : OwnFr (w.alloc o) B v fs := h.below (bl_alloc (bl_refl w) o)
theorem OwnFr.drewN {w : World} {B : Nat} {v : Value} {fs : List Fr} (h : OwnFr w B v fs) (n : Nat) : OwnFr (w.drewN n) B v fs := h
theorem OwnFr.drew {w : World} {B : Nat} {v : Value} {fs : List Fr} (h : OwnFr w B v fs) : OwnFr w.drew B v fs := h
/-- clipped -/
theorem OwnFr.clip {w : World} {B : Nat} {a : Option Addr} {n cap : Nat} {fs : List Fr} (h : OwnFr w B (.slice a n cap) fs) : OwnFr w B (.slice a n n) fs := by
  obtain ⟨a', cap', e, hl, h0, h⟩ := h
  injection e with e1 e2 e3
  subst e1 e2
  exact ⟨a, fs.length, rfl, Nat.le_refl _, fun e => ⟨(h0 e).1, (h0 e).1⟩, h⟩
theorem OwnFr.form {w : World} {B : Nat} {v : Value} {fs : List Fr} (h : OwnFr w B v fs) : ∃ a cap, v = .slice a fs.length cap ∧ fs.length ≤ cap ∧ (a = none → fs.length = 0) := by
  obtain ⟨a, cap, e, hl, h0, h⟩ := h
  exact ⟨a, cap, e, hl, fun e => (h0 e).1⟩

set_option maxHeartbeats 1000000 in
theorem copiedL_c (cn cd : Int) (v : Value) (fs : List Fr) (w : World) (hI : FracsAt w v fs) (hn : fs.length ≤ 4000000) :
    Calls Try.prog 32 #[.agg #[.int .i64 cn, .int .i64 cd, v]] w fun e w' => ∃ a, e = .returned (.agg #[.int .i64 cn, .int .i64 cd, .slice a fs.length fs.length]) ∧ OwnFr w' w.heap.size (.slice a fs.length fs.length) fs ∧ Below w.heap.size w w' := by
  obtain ⟨a, cap, rfl, hcap, h⟩ := id hI
  have HI := Lib.hid hI
  have hnr : ∀ Y, Below w.heap.size w Y → FracsAt Y (.slice a fs.length cap) fs := fun Y hY => hI.below hY
  have Hnr := Lib.hid hnr
  clear hI hnr h
  go_enter Try.func32, Try.ntmps32
  go_wp2_with fail
  go_region_held3 (fun w' => w'.cell? ⟨w.heap.size, 0, none⟩ = some (.int .i64 cn) ∧ w'.cell? ⟨w.heap.size, 1, none⟩ = some (.int .i64 cd) ∧ w'.cell? ⟨w.heap.size, 2, none⟩ = some (.slice a fs.length cap)) (go_keep)
    (first | (go_at_call 64; refine (cloneF_c _ fs _ (Hnr.out _ (by repeat' (first | with_reducible exact bl_refl _ | with_reducible apply bl_alloc | with_reducible apply bl_drewN | with_reducible apply bl_drew | with_reducible apply bl_set | with_reducible refine bl_call (by assumption) ?_ | (simp; done) | (simp; omega) | omega))) hn).mono ?_; rintro e w1 ⟨v1, rfl, hown, hb1⟩; obtain ⟨a1, cap1, rfl, hcap1, ha1⟩ := hown.fr.form; have hzw1_0 : w.heap.size < w1.heap.size := (by have hzz := hb1.size; (try simp at hzz); omega); have hzw1_1 : w.heap.size + 1 < w1.heap.size := (by have hzz := hb1.size; (try simp at hzz); omega); have Lw1 := Locals.call hb1 (L := [(⟨w.heap.size, 0, none⟩, .int .i64 cn), (⟨w.heap.size, 1, none⟩, .int .i64 cd), (⟨w.heap.size, 2, none⟩, .slice a fs.length cap), (⟨w.heap.size + 1, 0, none⟩, .int .i64 0), (⟨w.heap.size + 1, 1, none⟩, .int .i64 0), (⟨w.heap.size + 1, 2, none⟩, .slice none 0 0)]) (by simp only [Locals]; repeat' (first | exact trivial | apply And.intro) <;> go_simp); obtain ⟨⟨cw1_0, fw1_0⟩, ⟨cw1_1, fw1_1⟩, ⟨cw1_2, fw1_2⟩, ⟨cw1_3, fw1_3⟩, ⟨cw1_4, fw1_4⟩, ⟨cw1_5, fw1_5⟩, -⟩ := Lw1) | (go_at_call 33; refine (clipF_c _ _ _ _ hcap1 hn ha1).mono ?_; rintro e w' ⟨rfl, rfl⟩))
  have hown' := (hown.fr.clip).low (B' := w.heap.size + 2) (by simp)
  go_wp2_with fail
  refine bodyPost_ret (v := .agg #[.int .i64 cn, .int .i64 cd, .slice a1 fs.length fs.length]) (by simp only [results, Try.results32]; go_simp) rfl ⟨a1, rfl, (((hown'.set (by simp) _).set (by simp) _).set (by simp) _).low (by omega), (by repeat' (first | with_reducible exact bl_refl _ | with_reducible apply bl_alloc | with_reducible apply bl_drewN | with_reducible apply bl_drew | with_reducible apply bl_set | with_reducible refine bl_call (by assumption) ?_ | (simp; done) | (simp; omega) | omega))⟩

end Go.Proofs.Ytfebbpihcngjoaa
