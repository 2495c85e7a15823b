/- Less is known of a state: names turned, loops. -/
import Derived.Test.YtnffoddeppimkaaAwK
namespace Go.Proofs.Ytnffoddeppimkaa.AW
open Go

/-- what is told (first) holds of what is there (second) -/
def LeC : CV → CV → Prop
  | .ro st es cap, .ro st' es' cap' => st' = st ∧ es' = es ∧ (cap = none ∨ cap' = cap)
  | .ro _ es cap, .sc (.slice none 0 0) => es = [] ∧ (cap = none ∨ cap = some 0)
  | c, c' => c' = c
mutual
def LeA (ρ : Nat → Option Nat) : AV → AV → Prop
  | .any, _ => True
  | .cv c, .cv c' => LeC c c'
  | .ptr b st i k, .ptr b' st' i' k' => ρ b = some b' ∧ st' = st ∧ i' = i ∧ k' = k
  | .own b st o n cap, .own b' st' o' n' cap' => ρ b = some b' ∧ st' = st ∧ o' = o ∧ n' = n ∧ (cap = none ∨ cap' = cap)
  | .agg cs, .agg xs => LeL ρ cs xs
  | .tup cs, .tup xs => LeL ρ cs xs
  | .ifc t v, .ifc t' v' => t' = t ∧ LeA ρ v v'
  | .fn f fs cs, .fn f' fs' cs' => f' = f ∧ LeL ρ fs fs' ∧ LeL ρ cs cs'
  | _, _ => False
def LeL (ρ : Nat → Option Nat) : List AV → List AV → Prop
  | [], [] => True
  | y :: ys, x :: xs => LeA ρ y x ∧ LeL ρ ys xs
  | _, _ => False
end

theorem LeC.rep {w : World} {pr : Nat → Prop} {c c' : CV} {v : Value} (h : LeC c c') (r : RepC w pr c' v) : RepC w pr c v := by
  unfold LeC at h
  split at h
  · obtain ⟨rfl, rfl, h⟩ := h
    cases r with
    | ro _ _ _ a n c vs h1 h2 h3 h4 h5 h6 =>
      refine .ro _ _ _ a n c vs h1 h2 (fun x hx => ?_) h4 h5 h6
      rcases h with rfl | rfl
      · cases hx
      · exact h3 x hx
  · obtain ⟨rfl, h⟩ := h
    cases r
    refine .ro _ _ _ none 0 0 (fun _ _ => undef) rfl (Nat.le_refl _) (fun x hx => ?_) (by simp) (by simp) (by simp)
    rcases h with rfl | rfl
    · cases hx
    · cases hx; rfl
  · subst h; exact r

/-- names told anew -/
def Emb.ren (E : Emb) (ρ : Nat → Option Nat) : Emb :=
  { blk := fun b => match ρ b with | some x => E.blk x | none => 0, sz := fun b => match ρ b with | some x => E.sz x | none => 0,
    U := fun b => ∃ x, ρ b = some x ∧ E.U x, gh := fun b => ∃ x, ρ b = some x ∧ E.gh x, pr := E.pr, fr := E.fr }
mutual
theorem LeA.rep {w : World} {E : Emb} {ρ : Nat → Option Nat} : ∀ {y x : AV} {v : Value}, LeA ρ y x → RepA w E x v → RepA w (E.ren ρ) y v
  | .any, _, v, _, _ => .any v
  | .cv c, .cv c', v, h, r => by
    simp only [LeA] at h
    cases r with | cv _ _ r => exact .cv _ _ (h.rep r)
  | .ptr b st i k, .ptr b' st' i' k', v, h, r => by
    simp only [LeA] at h
    obtain ⟨h1, rfl, rfl, rfl⟩ := h
    obtain ⟨hU, rfl⟩ := rep_ptr r
    have hg := rep_ptr_g r
    have := RepA.ptr (w := w) (E := E.ren ρ) b st' i' k' ⟨b', h1, hU⟩ (fun ⟨x, e, g⟩ => by rw [h1] at e; cases e; exact hg g)
    have e : (E.ren ρ).blk b = E.blk b' := by simp [Emb.ren, h1]
    rwa [e] at this
  | .own b st o n cap, .own b' st' o' n' cap', v, h, r => by
    simp only [LeA] at h
    obtain ⟨h1, rfl, rfl, rfl, h2⟩ := h
    obtain ⟨c, a, rfl, hU, hn, hc, hh⟩ := rep_own r
    have hc' : ∀ x, cap = some x → c = x := fun x hx => by
      rcases h2 with rfl | rfl
      · cases hx
      · exact hc x hx
    rcases hh with ⟨hg, rfl, hs⟩ | ⟨hg, rfl, rfl⟩
    · have := RepA.own (w := w) (E := E.ren ρ) b st' o' n' cap c ⟨b', h1, hU⟩ (fun ⟨x, e, g⟩ => by rw [h1] at e; cases e; exact hg g) hn hc' (by simpa [Emb.ren, h1] using hs)
      have e : (E.ren ρ).blk b = E.blk b' := by simp [Emb.ren, h1]
      rwa [e] at this
    · exact .own0 _ _ _ _ _ ⟨b', h1, hU⟩ ⟨b', h1, hg⟩ fun x hx => (hc' x hx).symm
  | .agg cs, .agg xs, v, h, r => by
    simp only [LeA] at h
    obtain ⟨vs, rfl, hs, hr⟩ := rep_agg r
    obtain ⟨h1, h2⟩ := LeL.rep h (w := w) (E := E)
    exact .agg _ _ (hs.trans h1.symm) fun k y hy => by obtain ⟨x, hx, g⟩ := h2 k y hy; exact g _ (hr k x hx)
  | .tup cs, .tup xs, v, h, r => by
    simp only [LeA] at h
    obtain ⟨vs, rfl, hs, hr⟩ := rep_tup r
    obtain ⟨h1, h2⟩ := LeL.rep h (w := w) (E := E)
    exact .tup _ _ (hs.trans h1.symm) fun k y hy => by obtain ⟨x, hx, g⟩ := h2 k y hy; exact g _ (hr k x hx)
  | .ifc t y, .ifc t' x, v, h, r => by
    simp only [LeA] at h
    obtain ⟨rfl, h⟩ := h
    obtain ⟨u, rfl, hu⟩ := rep_ifc r
    exact .ifc _ _ _ (LeA.rep h hu)
  | .fn f fs cs, .fn f' fs' cs', v, h, r => by
    simp only [LeA] at h
    obtain ⟨rfl, h1, h2⟩ := h
    obtain ⟨a1, a2⟩ := LeL.rep h1 (w := w) (E := E)
    obtain ⟨b1, b2⟩ := LeL.rep h2 (w := w) (E := E)
    cases r with
    | fn _ _ _ a b ha hb hf hg =>
      exact .fn _ _ _ _ _ (ha.trans a1.symm) (hb.trans b1.symm) (fun k y hy => by obtain ⟨x, hx, g⟩ := a2 k y hy; exact g _ (hf k x hx)) (fun k y hy => by obtain ⟨x, hx, g⟩ := b2 k y hy; exact g _ (hg k x hx))
theorem LeL.rep {w : World} {E : Emb} {ρ : Nat → Option Nat} : ∀ {ys xs : List AV}, LeL ρ ys xs → ys.length = xs.length ∧ ∀ (k : Nat) (y : AV), ys[k]? = some y → ∃ x, xs[k]? = some x ∧ ∀ v, RepA w E x v → RepA w (E.ren ρ) y v
  | [], [], _ => ⟨rfl, by simp⟩
  | y :: ys, x :: xs, h => by
    simp only [LeL] at h
    obtain ⟨h1, h2⟩ := LeL.rep h.2 (w := w) (E := E)
    refine ⟨by simp [h1], fun k z hz => ?_⟩
    cases k with
    | zero =>
      simp only [List.getElem?_cons_zero, Option.some.injEq] at hz
      subst hz
      exact ⟨x, rfl, fun v hv => LeA.rep h.1 hv⟩
    | succ k => simpa using h2 k z (by simpa using hz)
end

def LeB (ρ : Nat → Option Nat) : Block → Block → Prop
  | .box cs, .box xs => LeL ρ cs xs
  | .row st es, .row st' es' => st' = st ∧ es' = es
  | _, _ => False
def AllT (ρ : Nat → Option Nat) (T : Nat → AV) : List (Nat × AV) → Prop
  | [] => True
  | (t, v) :: l => LeA ρ v (T t) ∧ AllT ρ T l
def AllH (ρ : Nat → Option Nat) (H : Nat → Option Block) : List (Nat × Option Block) → Prop
  | [] => True
  | (_, none) :: l => AllH ρ H l
  | (b, some B) :: l => (match ρ b with
    | some x => match H x with
      | some X => LeB ρ B X
      | none => False
    | none => False) ∧ AllH ρ H l
def lk : List (Nat × Nat) → Nat → Option Nat
  | [], _ => none
  | (b, x) :: l, y => match Nat.beq y b with
    | true => some x
    | false => lk l y
/-- a turning of names that is sound: the first k stay, no two become one -/
def renOk (k nx : Nat) (l : List (Nat × Nat)) : Bool :=
  (List.range k).all (fun b => lk l b == some b) && l.all (fun p => decide (p.1 < nx)) && l.all (fun p => l.all fun q => p.2 != q.2 || p.1 == q.1)
theorem lk_mem : ∀ {l : List (Nat × Nat)} {y x : Nat}, lk l y = some x → (y, x) ∈ l
  | [], y, x, h => by cases h
  | (b, z) :: l, y, x, h => by
    simp only [lk] at h
    split at h
    · rename_i hb
      have := Nat.eq_of_beq_eq_true hb
      cases h; subst this; exact List.mem_cons_self ..
    · exact List.mem_cons_of_mem _ (lk_mem h)
theorem renOk_inj {k nx : Nat} {l : List (Nat × Nat)} (h : renOk k nx l = true) {b c x : Nat} (hb : lk l b = some x) (hc : lk l c = some x) : b = c := by
  simp only [renOk, Bool.and_eq_true, List.all_eq_true] at h
  have := h.2 _ (lk_mem hb) _ (lk_mem hc)
  simpa using this
theorem renOk_lt {k nx : Nat} {l : List (Nat × Nat)} (h : renOk k nx l = true) {b x : Nat} (hb : lk l b = some x) : b < nx := by
  simp only [renOk, Bool.and_eq_true, List.all_eq_true] at h
  simpa using h.1.2 _ (lk_mem hb)
theorem renOk_fix {k nx : Nat} {l : List (Nat × Nat)} (h : renOk k nx l = true) {b : Nat} (hb : b < k) : lk l b = some b := by
  simp only [renOk, Bool.and_eq_true, List.all_eq_true] at h
  simpa using h.1.1 b (List.mem_range.2 hb)

theorem ren_heap {w : World} {E : Emb} {H : Nat → Option Block} {k nx : Nat} {l : List (Nat × Nat)} (hr : renOk k nx l = true) (hh : HInv E H w) (hk : ∀ b, b < k → E.U b) : ∀ {H' : List (Nat × Option Block)}, AllH (lk l) H H' →
    HInv (E.ren (lk l)) (geth H') w ∧ Ext (· < k) E w (E.ren (lk l)) w := by
  intro H' ha
  have out : ∀ (H' : List (Nat × Option Block)), AllH (lk l) H H' → ∀ b B, geth H' b = some B → ∃ x X, lk l b = some x ∧ H x = some X ∧ LeB (lk l) B X := by
    intro H'
    induction H' with
    | nil => intro _ b B hb; cases hb
    | cons p H' ih =>
      intro ha b B hb
      obtain ⟨c, D⟩ := p
      simp only [geth] at hb
      cases D with
      | none =>
        simp only [AllH] at ha
        split at hb
        · cases hb
        · exact ih ha b B hb
      | some D =>
        simp only [AllH] at ha
        split at hb
        · rename_i hbe
          have := Nat.eq_of_beq_eq_true hbe
          cases hb; subst this
          have h1 := ha.1
          split at h1
          · rename_i x hx
            split at h1
            · rename_i X hX; exact ⟨x, X, hx, hX, h1⟩
            · exact h1.elim
          · exact h1.elim
        · exact ih ha.2 b B hb
  have O := out H' ha
  have blk : ∀ {b x}, lk l b = some x → (E.ren (lk l)).blk b = E.blk x ∧ (E.ren (lk l)).sz b = E.sz x ∧ ((E.ren (lk l)).gh b ↔ E.gh x) := fun {b x} h => by
    refine ⟨by simp [Emb.ren, h], by simp [Emb.ren, h], ⟨fun ⟨y, e, g⟩ => by rw [h] at e; cases e; exact g, fun g => ⟨x, h, g⟩⟩⟩
  refine ⟨⟨fun b B hb => ?_, fun b B hb => ?_, fun b c B D hb hc gb gc e => ?_, hh.prfr, hh.frlt⟩, ⟨fun _ _ => rfl, fun _ h => h, fun _ h => h, Nat.le_refl _, fun b hb => blk (renOk_fix hr hb), fun b ⟨x, e, hU⟩ hg => .inr ⟨x, hU, fun g => hg ⟨x, e, g⟩, (blk e).1⟩, fun _ h => .inl h, ⟨rfl, rfl, rfl⟩⟩⟩
  · obtain ⟨x, X, h1, h2, h3⟩ := O b B hb
    obtain ⟨e1, e2, e3⟩ := blk h1
    have hX := hh.hp x X h2
    cases B with
    | box cs =>
      cases X with
      | box xs =>
        simp only [LeB] at h3
        obtain ⟨g, cells, p, q1, q2, q3⟩ := hX
        obtain ⟨l1, l2⟩ := LeL.rep h3 (w := w) (E := E)
        refine ⟨fun g' => g (e3.1 g'), cells, by rw [e1]; exact p, by rw [e2]; exact q1, by omega, fun k y hy => ?_⟩
        obtain ⟨z, hz, hzr⟩ := l2 k y hy
        exact hzr _ (q3 k z hz)
      | row => exact h3.elim
    | row st es =>
      cases X with
      | box => exact h3.elim
      | row st' es' =>
        simp only [LeB] at h3
        obtain ⟨rfl, rfl⟩ := h3
        rcases hX with ⟨g, he⟩ | ⟨g, cells, p, q1, q2, q3, q4⟩
        · exact .inl ⟨e3.2 g, he⟩
        · exact .inr ⟨fun g' => g (e3.1 g'), cells, by rw [e1]; exact p, by rw [e2]; exact q1, q2, q3, q4⟩
  · obtain ⟨x, X, h1, h2, h3⟩ := O b B hb
    obtain ⟨e1, e2, e3⟩ := blk h1
    obtain ⟨u, f⟩ := hh.un x X h2
    exact ⟨⟨x, h1, u⟩, fun g => by rw [e1]; exact f fun g' => g (e3.2 g')⟩
  · obtain ⟨x, X, h1, h2, h3⟩ := O b B hb
    obtain ⟨y, Y, k1, k2, k3⟩ := O c D hc
    obtain ⟨e1, e2, e3⟩ := blk h1
    obtain ⟨f1, f2, f3⟩ := blk k1
    have := hh.inj x y X Y h2 k2 (fun g => gb (e3.2 g)) (fun g => gc (f3.2 g)) (by rw [← e1, ← f1]; exact e)
    subst this
    exact renOk_inj hr h1 k1

/-- a state is what another one tells, by a turning of names -/
def Sub (k : Nat) (l : List (Nat × Nat)) (st st' : St) : Prop := renOk k st'.nx l = true ∧ AllT (lk l) (get st.T) st'.T ∧ AllH (lk l) (geth st.H) st'.H
theorem Sub.inv {k N : Nat} {l : List (Nat × Nat)} {st st' : St} (h : Sub k l st st') {E : Emb} {a : Act} {w : World} (hI : Inv N k E st a w) : Inv N k (E.ren (lk l)) st' a w ∧ Ext (· < k) E w (E.ren (lk l)) w := by
  obtain ⟨hr, ht, hh⟩ := h
  obtain ⟨g1, g2⟩ := ren_heap hr hI.h hI.k hh
  refine ⟨⟨⟨fun t => ?_, hI.t.sz, hI.t.df⟩, g1, fun b ⟨x, e, _⟩ => renOk_lt hr e, fun b hb => ⟨b, renOk_fix hr hb, hI.k b hb⟩⟩, g2⟩
  have out : ∀ (l' : List (Nat × AV)), AllT (lk l) (get st.T) l' → ∀ t, get l' t = .any ∨ LeA (lk l) (get l' t) (get st.T t) := by
    intro l'
    induction l' with
    | nil => intro _ t; exact .inl rfl
    | cons p l' ih =>
      intro ha t
      obtain ⟨d, v⟩ := p
      simp only [AllT] at ha
      simp only [get]
      split
      · rename_i hb
        have := Nat.eq_of_beq_eq_true hb
        subst this
        exact .inr ha.1
      · exact ih ha.2 t
  rcases out st'.T ht t with e | e
  · rw [e]; exact .any _
  · exact LeA.rep e (hI.t.tm t)

theorem AW.sub {C : Ctx} {N k : Nat} {c : Code} {st st' : St} {Q : Exit → St → Prop} {l : List (Nat × Nat)} (hs : Sub k l st st') (h : AW C N k c st' Q) : AW C N k c st Q := .mk fun E a w hI => by
  obtain ⟨g1, g2⟩ := hs.inv hI
  exact wp_mono (h.out _ a w g1) fun e a w ⟨st'', E'', q1, q2, q3⟩ => ⟨st'', E'', q1, q2, g2.trans q3⟩

/-- a loop, by what holds ahead of each round -/
theorem AW.loop {C : Ctx} {N k : Nat} {c : Code} {st : St} {Q : Exit → St → Prop} {X : Type} (I : X → St) (μ : X → Nat) (x₀ : X) (l₀ : List (Nat × Nat)) (h₀ : Sub k l₀ st (I x₀))
    (round : ∀ x, AWp C N k c (I x) fun e st' => match e with | .normal => ∃ (x' : X) (l : List (Nat × Nat)), Sub k l st' (I x') ∧ μ x' < μ x | e => Q e st') : AW C N k (.loop c) st Q := .mk fun E a w hI => by
  obtain ⟨g1, g2⟩ := h₀.inv hI
  let J : X → Act → World → Prop := fun x a' w' => ∃ E', Inv N k E' (I x) a' w' ∧ Ext (· < k) E w E' w'
  have least : ∀ (P : Nat → Prop), (∃ n, P n) → ∃ n, P n ∧ ∀ m, P m → n ≤ m := by
    intro P ⟨n, hn⟩
    induction n using Nat.strongRecOn with
    | _ n ih =>
      by_cases h : ∃ m, m < n ∧ P m
      · obtain ⟨m, h1, h2⟩ := h; exact ih m h1 h2
      · exact ⟨n, hn, fun m hm => Nat.le_of_not_lt fun hlt => h ⟨m, hlt, hm⟩⟩
  have ex : ∀ a' w', ∃ n, (∃ x, J x a' w') → (∃ x, J x a' w' ∧ μ x = n) ∧ ∀ x, J x a' w' → n ≤ μ x := fun a' w' => by
    by_cases h : ∃ x, J x a' w'
    · obtain ⟨n, ⟨x, h1, h2⟩, h3⟩ := least (fun n => ∃ x, J x a' w' ∧ μ x = n) (h.elim fun x hx => ⟨μ x, x, hx, rfl⟩)
      exact ⟨n, fun _ => ⟨⟨x, h1, h2⟩, fun y hy => h3 _ ⟨y, hy, rfl⟩⟩⟩
    · exact ⟨0, fun g => (h g).elim⟩
  refine wp_loop (fun a' w' => ∃ x, J x a' w') (fun a' w' => (ex a' w').choose) ⟨x₀, _, g1, g2⟩ fun a' w' hJ => ?_
  obtain ⟨⟨x, ⟨E', i1, i2⟩, hμ⟩, hmin⟩ := (ex a' w').choose_spec hJ
  refine wp_mono (round x E' a' w' i1) fun e a'' w'' ⟨st', E'', q1, q2, q3⟩ => ?_
  cases e with
  | normal =>
    obtain ⟨x', l, hs, hlt⟩ := q1
    obtain ⟨s1, s2⟩ := hs.inv q2
    have hJ' : J x' a'' w'' := ⟨_, s1, i2.trans (q3.trans s2)⟩
    refine ⟨⟨x', hJ'⟩, ?_⟩
    have := ((ex a'' w'').choose_spec ⟨x', hJ'⟩).2 x' hJ'
    omega
  | _ => exact ⟨st', E'', q1, q2, i2.trans q3⟩
end Go.Proofs.Ytnffoddeppimkaa.AW
