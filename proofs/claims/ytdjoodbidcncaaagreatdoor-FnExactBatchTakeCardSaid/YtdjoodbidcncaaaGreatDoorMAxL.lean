/- Less is known of a state: names turned, loops. -/
import Derived.Test.YtdjoodbidcncaaaGreatDoorMAxH
set_option linter.unusedVariables false
set_option linter.unusedSimpArgs false
namespace Go.Proofs.YtdjoodbidcncaaaGreatDoor.AW
open Go

/-- what is told (first) holds of what is there (second) -/
def LeC : CV → CV → Prop
  | .ro st es cap, .ro st' es' cap' => st' = st ∧ es' = es ∧ (cap = none ∨ cap' = cap)
  | .ro _ es cap, .sc (.slice none 0 0) => es = [] ∧ (cap = none ∨ cap = some 0)
  | c, c' => c' = c
mutual
def LeA (ρ : Nat → Option Nat) : AV → AV → Prop
  | .any, _ => True
  | .cv c, .cv c' => LeC c c'
  | .ptr b st i k, .ptr b' st' i' k' => ρ b = some b' ∧ st' = st ∧ i' = i ∧ k' = k
  | .own b st o n cap, .own b' st' o' n' cap' => ρ b = some b' ∧ st' = st ∧ o' = o ∧ n' = n ∧ (cap = none ∨ cap' = cap)
  | .agg cs, .agg xs => LeL ρ cs xs
  | .tup cs, .tup xs => LeL ρ cs xs
  | .ifc t v, .ifc t' v' => t' = t ∧ LeA ρ v v'
  | .fn f fs cs, .fn f' fs' cs' => f' = f ∧ LeL ρ fs fs' ∧ LeL ρ cs cs'
  | .mp b, .mp b' => ρ b = some b'
  | .ch b, .ch b' => ρ b = some b'
  | _, _ => False
def LeL (ρ : Nat → Option Nat) : List AV → List AV → Prop
  | [], [] => True
  | y :: ys, x :: xs => LeA ρ y x ∧ LeL ρ ys xs
  | _, _ => False
end

theorem LeC.rep {w : World} {pr : Nat → Prop} {c c' : CV} {v : Value} (h : LeC c c') (r : RepC w pr c' v) : RepC w pr c v := by
  unfold LeC at h
  split at h
  · obtain ⟨rfl, rfl, h⟩ := h
    cases r with
    | ro _ _ _ a n c vs h1 h2 h3 h4 h5 h6 =>
      refine .ro _ _ _ a n c vs h1 h2 (fun x hx => ?_) h4 h5 h6
      rcases h with rfl | rfl
      · cases hx
      · exact h3 x hx
  · obtain ⟨rfl, h⟩ := h
    cases r
    refine .ro _ _ _ none 0 0 (fun _ _ => undef) rfl (Nat.le_refl _) (fun x hx => ?_) (by simp) (by simp) (by simp)
    rcases h with rfl | rfl
    · cases hx
    · cases hx; rfl
  · subst h; exact r

/-- names told anew -/
def Emb.ren (E : Emb) (ρ : Nat → Option Nat) : Emb :=
  { blk := fun b => match ρ b with | some x => E.blk x | none => 0, sz := fun b => match ρ b with | some x => E.sz x | none => 0,
    U := fun b => ∃ x, ρ b = some x ∧ E.U x, gh := fun b => ∃ x, ρ b = some x ∧ E.gh x, pr := E.pr, fr := E.fr }
mutual
theorem LeA.rep {w : World} {E : Emb} {ρ : Nat → Option Nat} : ∀ {y x : AV} {v : Value}, LeA ρ y x → RepA w E x v → RepA w (E.ren ρ) y v
  | .any, _, v, _, _ => .any v
  | .cv c, .cv c', v, h, r => by
    simp only [LeA] at h
    cases r with | cv _ _ r => exact .cv _ _ (h.rep r)
  | .ptr b st i k, .ptr b' st' i' k', v, h, r => by
    simp only [LeA] at h
    obtain ⟨h1, rfl, rfl, rfl⟩ := h
    obtain ⟨hU, rfl⟩ := rep_ptr r
    have hg := rep_ptr_g r
    have := RepA.ptr (w := w) (E := E.ren ρ) b st' i' k' ⟨b', h1, hU⟩ (fun ⟨x, e, g⟩ => by rw [h1] at e; cases e; exact hg g)
    have e : (E.ren ρ).blk b = E.blk b' := by simp [Emb.ren, h1]
    rwa [e] at this
  | .own b st o n cap, .own b' st' o' n' cap', v, h, r => by
    simp only [LeA] at h
    obtain ⟨h1, rfl, rfl, rfl, h2⟩ := h
    obtain ⟨c, a, rfl, hU, hn, hc, hh⟩ := rep_own r
    have hc' : ∀ x, cap = some x → c = x := fun x hx => by
      rcases h2 with rfl | rfl
      · cases hx
      · exact hc x hx
    rcases hh with ⟨hg, rfl, hs⟩ | ⟨hg, rfl, rfl⟩
    · have := RepA.own (w := w) (E := E.ren ρ) b st' o' n' cap c ⟨b', h1, hU⟩ (fun ⟨x, e, g⟩ => by rw [h1] at e; cases e; exact hg g) hn hc' (by simpa [Emb.ren, h1] using hs)
      have e : (E.ren ρ).blk b = E.blk b' := by simp [Emb.ren, h1]
      rwa [e] at this
    · exact .own0 _ _ _ _ _ ⟨b', h1, hU⟩ ⟨b', h1, hg⟩ fun x hx => (hc' x hx).symm
  | .agg cs, .agg xs, v, h, r => by
    simp only [LeA] at h
    obtain ⟨vs, rfl, hs, hr⟩ := rep_agg r
    obtain ⟨h1, h2⟩ := LeL.rep h (w := w) (E := E)
    exact .agg _ _ (hs.trans h1.symm) fun k y hy => by obtain ⟨x, hx, g⟩ := h2 k y hy; exact g _ (hr k x hx)
  | .tup cs, .tup xs, v, h, r => by
    simp only [LeA] at h
    obtain ⟨vs, rfl, hs, hr⟩ := rep_tup r
    obtain ⟨h1, h2⟩ := LeL.rep h (w := w) (E := E)
    exact .tup _ _ (hs.trans h1.symm) fun k y hy => by obtain ⟨x, hx, g⟩ := h2 k y hy; exact g _ (hr k x hx)
  | .ifc t y, .ifc t' x, v, h, r => by
    simp only [LeA] at h
    obtain ⟨rfl, h⟩ := h
    obtain ⟨u, rfl, hu⟩ := rep_ifc r
    exact .ifc _ _ _ (LeA.rep h hu)
  | .fn f fs cs, .fn f' fs' cs', v, h, r => by
    simp only [LeA] at h
    obtain ⟨rfl, h1, h2⟩ := h
    obtain ⟨a1, a2⟩ := LeL.rep h1 (w := w) (E := E)
    obtain ⟨b1, b2⟩ := LeL.rep h2 (w := w) (E := E)
    cases r with
    | fn _ _ _ a b ha hb hf hg =>
      exact .fn _ _ _ _ _ (ha.trans a1.symm) (hb.trans b1.symm) (fun k y hy => by obtain ⟨x, hx, g⟩ := a2 k y hy; exact g _ (hf k x hx)) (fun k y hy => by obtain ⟨x, hx, g⟩ := b2 k y hy; exact g _ (hg k x hx))
  | .ch b, .ch b', v, h, r => by
    simp only [LeA] at h
    cases r with
    | ch _ hU hg =>
      have := RepA.ch (w := w) (E := E.ren ρ) b ⟨b', h, hU⟩ (fun ⟨x, e, g⟩ => by rw [h] at e; cases e; exact hg g)
      have e : (E.ren ρ).blk b = E.blk b' := by simp [Emb.ren, h]
      rwa [e] at this
  | .mp b, .mp b', v, h, r => by
    simp only [LeA] at h
    cases r with
    | mp _ hU hg =>
      have := RepA.mp (w := w) (E := E.ren ρ) b ⟨b', h, hU⟩ (fun ⟨x, e, g⟩ => by rw [h] at e; cases e; exact hg g)
      have e : (E.ren ρ).blk b = E.blk b' := by simp [Emb.ren, h]
      rwa [e] at this
theorem LeL.rep {w : World} {E : Emb} {ρ : Nat → Option Nat} : ∀ {ys xs : List AV}, LeL ρ ys xs → ys.length = xs.length ∧ ∀ (k : Nat) (y : AV), ys[k]? = some y → ∃ x, xs[k]? = some x ∧ ∀ v, RepA w E x v → RepA w (E.ren ρ) y v
  | [], [], _ => ⟨rfl, by simp⟩
  | y :: ys, x :: xs, h => by
    simp only [LeL] at h
    obtain ⟨h1, h2⟩ := LeL.rep h.2 (w := w) (E := E)
    refine ⟨by simp [h1], fun k z hz => ?_⟩
    cases k with
    | zero =>
      simp only [List.getElem?_cons_zero, Option.some.injEq] at hz
      subst hz
      exact ⟨x, rfl, fun v hv => LeA.rep h.1 hv⟩
    | succ k => simpa using h2 k z (by simpa using hz)
end

def LeB (ρ : Nat → Option Nat) : Block → Block → Prop
  | .box cs, .box xs => LeL ρ cs xs
  | .row st es, .row st' es' => st' = st ∧ es' = es
  | .mp es, .mp es' => es' = es
  | .ch cap es shut, .ch cap' es' shut' => cap' = cap ∧ es' = es ∧ shut' = shut
  | _, _ => False
def AllT (ρ : Nat → Option Nat) (T : Nat → AV) : List (Nat × AV) → Prop
  | [] => True
  | (t, v) :: l => LeA ρ v (T t) ∧ AllT ρ T l
def AllH (ρ : Nat → Option Nat) (H : Nat → Option Block) : List (Nat × Option Block) → Prop
  | [] => True
  | (_, none) :: l => AllH ρ H l
  | (b, some B) :: l => (match ρ b with
    | some x => match H x with
      | some X => LeB ρ B X
      | none => False
    | none => False) ∧ AllH ρ H l
def lk : List (Nat × Nat) → Nat → Option Nat
  | [], _ => none
  | (b, x) :: l, y => match Nat.beq y b with
    | true => some x
    | false => lk l y
/-- a turning of names that is sound: the first k stay, no two become one -/
def renOk (k nx : Nat) (l : List (Nat × Nat)) : Bool :=
  (List.range k).all (fun b => lk l b == some b) && l.all (fun p => decide (p.1 < nx)) && l.all (fun p => l.all fun q => p.2 != q.2 || p.1 == q.1)
theorem lk_mem : ∀ {l : List (Nat × Nat)} {y x : Nat}, lk l y = some x → (y, x) ∈ l
  | [], y, x, h => by cases h
  | (b, z) :: l, y, x, h => by
    simp only [lk] at h
    split at h
    · rename_i hb
      have := Nat.eq_of_beq_eq_true hb
      cases h; subst this; exact List.mem_cons_self ..
    · exact List.mem_cons_of_mem _ (lk_mem h)
theorem renOk_inj {k nx : Nat} {l : List (Nat × Nat)} (h : renOk k nx l = true) {b c x : Nat} (hb : lk l b = some x) (hc : lk l c = some x) : b = c := by
  simp only [renOk, Bool.and_eq_true, List.all_eq_true] at h
  have := h.2 _ (lk_mem hb) _ (lk_mem hc)
  simpa using this
theorem renOk_lt {k nx : Nat} {l : List (Nat × Nat)} (h : renOk k nx l = true) {b x : Nat} (hb : lk l b = some x) : b < nx := by
  simp only [renOk, Bool.and_eq_true, List.all_eq_true] at h
  simpa using h.1.2 _ (lk_mem hb)
theorem renOk_fix {k nx : Nat} {l : List (Nat × Nat)} (h : renOk k nx l = true) {b : Nat} (hb : b < k) : lk l b = some b := by
  simp only [renOk, Bool.and_eq_true, List.all_eq_true] at h
  simpa using h.1.1 b (List.mem_range.2 hb)

theorem ren_heap {w : World} {E : Emb} {H : Nat → Option Block} {k nx : Nat} {l : List (Nat × Nat)} (hr : renOk k nx l = true) (hh : HInv E H w) (hk : ∀ b, b < k → E.U b) : ∀ {H' : List (Nat × Option Block)}, AllH (lk l) H H' →
    HInv (E.ren (lk l)) (geth H') w ∧ Ext (· < k) E w (E.ren (lk l)) w := by
  intro H' ha
  have out : ∀ (H' : List (Nat × Option Block)), AllH (lk l) H H' → ∀ b B, geth H' b = some B → ∃ x X, lk l b = some x ∧ H x = some X ∧ LeB (lk l) B X := by
    intro H'
    induction H' with
    | nil => intro _ b B hb; cases hb
    | cons p H' ih =>
      intro ha b B hb
      obtain ⟨c, D⟩ := p
      simp only [geth] at hb
      cases D with
      | none =>
        simp only [AllH] at ha
        split at hb
        · cases hb
        · exact ih ha b B hb
      | some D =>
        simp only [AllH] at ha
        split at hb
        · rename_i hbe
          have := Nat.eq_of_beq_eq_true hbe
          cases hb; subst this
          have h1 := ha.1
          split at h1
          · rename_i x hx
            split at h1
            · rename_i X hX; exact ⟨x, X, hx, hX, h1⟩
            · exact h1.elim
          · exact h1.elim
        · exact ih ha.2 b B hb
  have O := out H' ha
  have blk : ∀ {b x}, lk l b = some x → (E.ren (lk l)).blk b = E.blk x ∧ (E.ren (lk l)).sz b = E.sz x ∧ ((E.ren (lk l)).gh b ↔ E.gh x) := fun {b x} h => by
    refine ⟨by simp [Emb.ren, h], by simp [Emb.ren, h], ⟨fun ⟨y, e, g⟩ => by rw [h] at e; cases e; exact g, fun g => ⟨x, h, g⟩⟩⟩
  refine ⟨⟨fun b B hb => ?_, fun b B hb => ?_, fun b c B D hb hc gb gc e => ?_, hh.prfr, hh.frlt⟩, ⟨fun _ _ => rfl, fun _ h => h, fun _ h => h, Nat.le_refl _, fun b hb => blk (renOk_fix hr hb), fun b ⟨x, e, hU⟩ hg => .inr ⟨x, hU, fun g => hg ⟨x, e, g⟩, (blk e).1⟩, fun _ h => .inl h, ⟨rfl, rfl, rfl⟩⟩⟩
  · obtain ⟨x, X, h1, h2, h3⟩ := O b B hb
    obtain ⟨e1, e2, e3⟩ := blk h1
    have hX := hh.hp x X h2
    cases B with
    | box cs =>
      cases X with
      | box xs =>
        simp only [LeB] at h3
        obtain ⟨g, cells, p, q1, q2, q3⟩ := hX
        obtain ⟨l1, l2⟩ := LeL.rep h3 (w := w) (E := E)
        refine ⟨fun g' => g (e3.1 g'), cells, by rw [e1]; exact p, by rw [e2]; exact q1, by omega, fun k y hy => ?_⟩
        obtain ⟨z, hz, hzr⟩ := l2 k y hy
        exact hzr _ (q3 k z hz)
      | row => exact h3.elim
      | mp => exact h3.elim
      | ch => exact h3.elim
    | row st es =>
      cases X with
      | box => exact h3.elim
      | row st' es' =>
        simp only [LeB] at h3
        obtain ⟨rfl, rfl⟩ := h3
        rcases hX with ⟨g, he⟩ | ⟨g, cells, p, q1, q2, q3, q4⟩
        · exact .inl ⟨e3.2 g, he⟩
        · exact .inr ⟨fun g' => g (e3.1 g'), cells, by rw [e1]; exact p, by rw [e2]; exact q1, q2, q3, q4⟩
      | mp => exact h3.elim
      | ch => exact h3.elim
    | mp es =>
      cases X with
      | box => exact h3.elim
      | row => exact h3.elim
      | mp es' =>
        simp only [LeB] at h3
        subst h3
        obtain ⟨g, ents, cl, p, q1, q2⟩ := hX
        exact ⟨fun g' => g (e3.1 g'), ents, cl, by rw [e1]; exact p, q1, q2⟩
      | ch => exact h3.elim
    | ch cap es shut =>
      cases X with
      | box => exact h3.elim
      | row => exact h3.elim
      | mp => exact h3.elim
      | ch cap' es' shut' =>
        simp only [LeB] at h3
        obtain ⟨rfl, rfl, rfl⟩ := h3
        obtain ⟨g, buf, s, r, tm, p, q1, q2⟩ := hX
        exact ⟨fun g' => g (e3.1 g'), buf, s, r, tm, by rw [e1]; exact p, q1, q2⟩
  · obtain ⟨x, X, h1, h2, h3⟩ := O b B hb
    obtain ⟨e1, e2, e3⟩ := blk h1
    obtain ⟨u, f⟩ := hh.un x X h2
    exact ⟨⟨x, h1, u⟩, fun g => by rw [e1]; exact f fun g' => g (e3.2 g')⟩
  · obtain ⟨x, X, h1, h2, h3⟩ := O b B hb
    obtain ⟨y, Y, k1, k2, k3⟩ := O c D hc
    obtain ⟨e1, e2, e3⟩ := blk h1
    obtain ⟨f1, f2, f3⟩ := blk k1
    have := hh.inj x y X Y h2 k2 (fun g => gb (e3.2 g)) (fun g => gc (f3.2 g)) (by rw [← e1, ← f1]; exact e)
    subst this
    exact renOk_inj hr h1 k1

/-- a state is what another one tells, by a turning of names -/
def Sub (k : Nat) (l : List (Nat × Nat)) (st st' : St) : Prop := renOk k st'.nx l = true ∧ AllT (lk l) (get st.T) st'.T ∧ AllH (lk l) (geth st.H) st'.H
theorem Sub.inv {C : Ctx} {k N : Nat} {l : List (Nat × Nat)} {st st' : St} (h : Sub k l st st') {E : Emb} {a : Act} {w : World} {x : C.M.X} (hI : Inv C.M N k E st a w x) : Inv C.M N k (E.ren (lk l)) st' a w x ∧ Ext (· < k) E w (E.ren (lk l)) w := by
  obtain ⟨hr, ht, hh⟩ := h
  obtain ⟨g1, g2⟩ := ren_heap hr hI.h hI.k hh
  refine ⟨⟨⟨fun t => ?_, hI.t.sz, hI.t.df⟩, g1, fun b ⟨x, e, _⟩ => renOk_lt hr e, (fun b hb => ⟨b, renOk_fix hr hb, hI.k b hb⟩), C.sound.okExt hI.ok g2⟩, g2⟩
  have out : ∀ (l' : List (Nat × AV)), AllT (lk l) (get st.T) l' → ∀ t, get l' t = .any ∨ LeA (lk l) (get l' t) (get st.T t) := by
    intro l'
    induction l' with
    | nil => intro _ t; exact .inl rfl
    | cons p l' ih =>
      intro ha t
      obtain ⟨d, v⟩ := p
      simp only [AllT] at ha
      simp only [get]
      split
      · rename_i hb
        have := Nat.eq_of_beq_eq_true hb
        subst this
        exact .inr ha.1
      · exact ih ha.2 t
  rcases out st'.T ht t with e | e
  · rw [e]; exact .any _
  · exact LeA.rep e (hI.t.tm t)

theorem AW.sub {C : Ctx} {N k : Nat} {c : Code} {st st' : St} {Q : Exit → St → Prop} {l : List (Nat × Nat)} (hs : Sub k l st st') (h : AW C N k c st' Q) : AW C N k c st Q := .mk fun fn E a w x hI => by
  obtain ⟨g1, g2⟩ := hs.inv hI
  exact C.sound.mono (h.out fn _ a w x g1) fun e a w x ⟨st'', E'', q1, q2, q3, q4⟩ => ⟨st'', E'', q1, q2, g2.trans q3, q4⟩

/-- a loop, by what holds ahead of each round -/
theorem AW.loop {C : Ctx} {N k : Nat} {c : Code} {st : St} {Q : Exit → St → Prop} {X : Type} (I : X → St) (μ : X → Nat) (x₀ : X) (l₀ : List (Nat × Nat)) (h₀ : Sub k l₀ st (I x₀))
    (round : ∀ x, AWp C N k c (I x) fun e st' => match e with | .normal => ∃ (x' : X) (l : List (Nat × Nat)), Sub k l st' (I x') ∧ μ x' < μ x | e => Q e st') : AW C N k (.loop c) st Q := .mk fun fn E a w z hI => by
  obtain ⟨g1, g2⟩ := h₀.inv hI
  refine C.sound.loop (fun y a' w' z' => ∃ E', Inv C.M N k E' (I y) a' w' z' ∧ Ext (· < k) E w E' w' ∧ C.M.le z w.heap.size z') μ x₀ ⟨_, g1, g2, C.M.leRefl _ _⟩ fun y a' w' z' ⟨E', i1, i2, i3⟩ => ?_
  refine C.sound.mono (round y fn E' a' w' z' i1) fun e a'' w'' z'' ⟨st', E'', q1, q2, q3, q4⟩ => ?_
  cases e with
  | normal =>
    obtain ⟨x', l, hs, hlt⟩ := q1
    obtain ⟨s1, s2⟩ := hs.inv q2
    exact ⟨x', ⟨_, s1, i2.trans (q3.trans s2), C.M.leTrans i3 q4 i2.sz⟩, hlt⟩
  | _ => exact ⟨st', E'', q1, q2, i2.trans q3, C.M.leTrans i3 q4 i2.sz⟩
end Go.Proofs.YtdjoodbidcncaaaGreatDoor.AW

/- Contracts of functions: entered, left, called. -/
namespace Go.Proofs.YtdjoodbidcncaaaGreatDoor.AW
open Go

def Bodied (P : Program) (f : FuncId) : Prop := ∃ fn, P.funcs[f]? = some fn ∧ (fn.name == "runtime.NumGoroutine") = false ∧ fn.body.isSome = true
def hin (l : List Block) : Nat → Option Block := fun b => l[b]?

/-- ████ a contract: of arguments (and blocks that they lead to) comes this, and nothing else is written ████ -/
structure Spec (C : Ctx) (f : FuncId) (args : List AV) (Hin : List Block) (res : AV) (Hout : List (Nat × Option Block)) : Prop where
  bod : Bodied C.P f
  run : ∀ (E : Emb) (w : World) (x : C.M.X) (vs : List Value), vs.length = args.length → (∀ (k : Nat) (x : AV), args[k]? = some x → RepA w E x (vs.getD k undef)) → HInv E (hin Hin) w → (∀ b, E.U b ↔ b < Hin.length) → C.M.ok x E w →
    C.M.Calls f vs.toArray w x fun v w' x' => ∃ E', RepA w' E' res v ∧ HInv E' (geth Hout) w' ∧ Ext (· < Hin.length) E w E' w' ∧ C.M.ok x' E' w' ∧ C.M.le x w.heap.size x'

def tin : Nat → List AV → List (Nat × AV)
  | _, [] => []
  | i, x :: l => (i, x) :: tin (i + 1) l
def hin2 : Nat → List Block → List (Nat × Option Block)
  | _, [] => []
  | i, B :: l => (i, some B) :: hin2 (i + 1) l
theorem get_tin : ∀ (l : List AV) (i t : Nat), get (tin i l) t = if i ≤ t then (l[t - i]?).getD .any else .any
  | [], i, t => by simp [tin, get]
  | x :: l, i, t => by
    simp only [tin, get]
    split
    · rename_i h
      have := Nat.eq_of_beq_eq_true h
      subst this
      simp
    · rename_i h
      have hne : t ≠ i := fun e => by subst e; rw [Nat.beq_refl] at h; cases h
      rw [get_tin l (i + 1) t]
      by_cases h1 : i + 1 ≤ t
      · rw [if_pos h1, if_pos (by omega), show t - i = (t - (i + 1)) + 1 by omega]; rfl
      · rw [if_neg h1, if_neg (by omega)]
theorem geth_hin2 : ∀ (l : List Block) (i t : Nat), geth (hin2 i l) t = if i ≤ t then l[t - i]? else none
  | [], i, t => by simp [hin2, geth]
  | x :: l, i, t => by
    simp only [hin2, geth]
    split
    · rename_i h
      have := Nat.eq_of_beq_eq_true h
      subst this
      simp
    · rename_i h
      have hne : t ≠ i := fun e => by subst e; rw [Nat.beq_refl] at h; cases h
      rw [geth_hin2 l (i + 1) t]
      by_cases h1 : i + 1 ≤ t
      · rw [if_pos h1, if_pos (by omega), show t - i = (t - (i + 1)) + 1 by omega]; rfl
      · rw [if_neg h1, if_neg (by omega)]

/-- what is read when the function is left -/
def vRes (C : Ctx) (st : St) : List ResultVar → (List AV → Prop) → Prop
  | [], K => K []
  | .tmp t :: l, K => vRes C st l fun r => K (get st.T t :: r)
  | .cell a t :: l, K => vLoad C t (get st.T a) (geth st.H) fun e => vRes C st l fun r => K (e.v :: r)
def one (l : List AV) : AV := match l with
  | [x] => x
  | l => .tup l

section
variable {C : Ctx}
theorem vLoad_run {t : TypeId} {x : AV} {H : Nat → Option Block} {K : Eff → Prop} (h : vLoad C t x H K) : ∃ e, K e ∧ ∀ E w u, HInv E H w → RepA w E x u → ∃ p v, u = .pointer (some p) ∧ (loadVar t p).run C.P w = .ok v w ∧ RepA w E e.v v ∧ EvOk E w w ((loadVar t p).events C.P w #[]) := by
  let o : Oper := { (default : Oper) with op := .load t (.tmp 0), dst := none }
  have ho : o.op = .load t (.tmp 0) := rfl
  -- the contract of the operation, read at a state whose one slot holds x
  unfold vLoad at h
  split at h
  · rename_i i b st j k hi
    unfold vLoadB at h
    split at h
    · rename_i cs hb
      replace h := ck_out h
      obtain ⟨hj, h⟩ := h
      have hj : j = 0 := by simpa using hj
      split at h
      · rename_i v hm hl
        have hl : ((cs.drop k).take i.sz).length = i.sz := by simpa using hl
        refine ⟨_, h, fun E w u hh hr => ?_⟩
        obtain ⟨hU, e⟩ := rep_ptr hr
        obtain ⟨hg, cells, p, hs, hle, hc⟩ := hh.hp b _ hb
        have hlen : k + i.sz ≤ cs.length ∨ i.sz = 0 := by simp only [List.length_take, List.length_drop] at hl; omega
        obtain ⟨y, hy, hr⟩ := mkVar_run (C := C) (w := w) (E := E) (C.ok _ _ hi) (p := ⟨E.blk b, j * st + k, none⟩) rfl hm hl (fun q => cells.getD (k + q) undef) (fun q hq => by
            have : k + q < cells.size := by omega
            simp [cellAt, p.cell, hj, Array.getD_eq_getD_getElem?, this]) (fun q y hy => hc _ _ (take_drop_get hy).1)
        exact ⟨_, y, e, hy, hr.1, .own hU hg p.lt hr.2⟩
      · exact h.elim
    · rename_i st' es hb
      replace h := ck_out h
      obtain ⟨hst, e', he, h⟩ := h
      have hst : st = st' := by simpa using hst
      subst hst
      split at h
      · rename_i v hm hl
        have hl : ((e'.drop k).take i.sz).length = i.sz := by simpa using hl
        refine ⟨_, h, fun E w u hh hr => ?_⟩
        obtain ⟨hU, e⟩ := rep_ptr hr
        have hg := rep_ptr_g hr
        obtain ⟨_, cells, p, hs, hle, hel, hc⟩ := (hh.hp b _ hb).resolve_left fun g => rep_ptr_g hr g.1
        have hlen : k + i.sz ≤ e'.length ∨ i.sz = 0 := by simp only [List.length_take, List.length_drop] at hl; omega
        have hes : e'.length = st := hel _ (List.mem_of_getElem? he)
        have hjl : j < es.length := (List.getElem?_eq_some_iff.1 he).1
        have hjs : j * st + st ≤ es.length * st := by
          have : (j + 1) * st ≤ es.length * st := Nat.mul_le_mul_right _ hjl
          simpa [Nat.succ_mul] using this
        obtain ⟨y, hy, hr⟩ := mkVar_run (C := C) (w := w) (E := E) (C.ok _ _ hi) (p := ⟨E.blk b, j * st + k, none⟩) rfl hm (by simpa using hl) (fun q => cells.getD (j * st + (k + q)) undef) (fun q hq => by
            have : j * st + k + q < cells.size := by omega
            simp [cellAt, p.cell, Array.getD_eq_getD_getElem?, this, ← Nat.add_assoc]) (fun q y hy => by
            simp only [List.getElem?_map, Option.map_eq_some_iff] at hy
            obtain ⟨c, hcq, rfl⟩ := hy
            exact .cv _ _ (hc j e' (k + q) c he (take_drop_get hcq).1))
        exact ⟨_, y, e, hy, hr.1, .own hU hg p.lt hr.2⟩
      · exact h.elim
    · exact h.elim
  · rename_i i cs hi
    split at h
    · rename_i v hm hl
      have hl : (cs.take i.sz).length = i.sz := by simpa using hl
      refine ⟨_, h, fun E w u hh hr => ?_⟩
      obtain ⟨p, vs, e, hsp, hpr, hc, hr⟩ := rep_rp hr
      have hlen : i.sz ≤ cs.length := by simp only [List.length_take] at hl; omega
      obtain ⟨y, hy, hr⟩ := mkVar_run (C := C) (w := w) (E := E) (C.ok _ _ hi) hsp hm (by simpa using hl) vs (fun q hq => hc q cs[q] (by simp)) (fun q y hy => by
          simp only [List.getElem?_map, Option.map_eq_some_iff] at hy
          obtain ⟨c, hcq, rfl⟩ := hy
          rw [List.getElem?_take] at hcq
          split at hcq
          · exact .cv _ _ (hr q c hcq)
          · cases hcq)
      exact ⟨_, y, e, hy, hr.1, .ro hpr (hh.frlt _ (hh.prfr _ hpr)) hr.2⟩
    · exact h.elim
  · exact h.elim

def resF (tmps : Array Value) : ResultVar → Sem Value
  | .tmp t => pure (tmps.getD t undef)
  | .cell a t => do loadVar t (← asAddr (tmps.getD a undef))
theorem results_eq (fn : Func) (tmps : Array Value) : results fn tmps = (do let vs ← fn.results.mapM (resF tmps); pure (if h : vs.size = 1 then vs[0] else .tuple vs)) := by
  unfold results
  congr 1
theorem vRes_run {st : St} : ∀ {l : List ResultVar} {K : List AV → Prop}, vRes C st l K → ∃ r, K r ∧ ∀ N E a w, TInv N E (get st.T) a w → HInv E (geth st.H) w →
    ∃ vs : List Value, (l.mapM (resF a.tmps)).run C.P w = .ok vs w ∧ vs.length = r.length ∧ (∀ (k : Nat) (y : AV), r[k]? = some y → RepA w E y (vs.getD k undef)) ∧ EvOk E w w ((l.mapM (resF a.tmps)).events C.P w #[])
  | [], K, h => ⟨[], h, fun _ E a w _ _ => ⟨[], rfl, rfl, by simp, .nil rfl⟩⟩
  | .tmp t :: l, K, h => by
    obtain ⟨r, h1, h2⟩ := vRes_run (l := l) h
    refine ⟨_, h1, fun N E a w ht hh => ?_⟩
    obtain ⟨vs, e1, e2, e3, e4⟩ := h2 N E a w ht hh
    refine ⟨a.tmps.getD t undef :: vs, ?_, by simp [e2], fun k y hy => ?_, ?_⟩
    rotate_left 2
    · rw [List.mapM_cons]
      refine .union fun ev hev => ?_
      rcases mem_seq hev (show (resF a.tmps (.tmp t)).run C.P w = .ok (a.tmps.getD t undef) w from rfl) with h | h
      · simp [resF] at h
      · rcases mem_seq h e1 with h | h
        · exact e4.one h
        · simp at h
    · have h0 : (resF a.tmps (.tmp t)).run C.P w = .ok (a.tmps.getD t undef) w := rfl
      rw [List.mapM_cons, Sem.run_bind, h0]
      simp only [Result.andThen_ok]
      rw [Sem.run_bind, e1]; rfl
    · cases k with
      | zero => simp only [List.getElem?_cons_zero, Option.some.injEq] at hy; subst hy; exact ht.tm t
      | succ k => exact e3 k y (by simpa using hy)
  | .cell x t :: l, K, h => by
    simp only [vRes] at h
    obtain ⟨e, he, hload⟩ := vLoad_run h
    obtain ⟨r, h1, h2⟩ := vRes_run (l := l) he
    refine ⟨_, h1, fun N E a w ht hh => ?_⟩
    obtain ⟨vs, e1, e2, e3, e4⟩ := h2 N E a w ht hh
    obtain ⟨p, v, q1, q2, q3, q4⟩ := hload E w _ hh (ht.tm x)
    refine ⟨v :: vs, ?_, by simp [e2], fun k y hy => ?_, ?_⟩
    rotate_left 2
    · rw [List.mapM_cons]
      refine .union fun ev hev => ?_
      rcases mem_seq hev (show (resF a.tmps (.cell x t)).run C.P w = .ok v w by simp only [resF, q1, asAddr, Sem.run_bind, Sem.run_pure, Result.andThen_ok, q2]) with h | h
      · simp only [resF, q1, asAddr] at h
        rcases mem_seq h (show _ = Result.ok p w from rfl) with h | h
        · simp at h
        · exact q4.one h
      · rcases mem_seq h e1 with h | h
        · exact e4.one h
        · simp at h
    · have h0 : (resF a.tmps (.cell x t)).run C.P w = .ok v w := by
        simp only [resF, q1, asAddr, Sem.run_bind, Sem.run_pure, Result.andThen_ok, q2]
      rw [List.mapM_cons, Sem.run_bind, h0]
      simp only [Result.andThen_ok]
      rw [Sem.run_bind, e1]; rfl
    · cases k with
      | zero => simp only [List.getElem?_cons_zero, Option.some.injEq] at hy; subst hy; exact q3
      | succ k => exact e3 k y (by simpa using hy)

/-- what must hold when the function is left -/
def Left (C : Ctx) (k nx : Nat) (rs : Array ResultVar) (res : AV) (Hout : List (Nat × Option Block)) (e : Exit) (st : St) : Prop := match e with
  | .normal | .ret => vRes C st rs.toList fun r => ∃ l : List (Nat × Nat), renOk k nx l = true ∧ LeA (lk l) res (one r) ∧ AllH (lk l) (geth st.H) Hout
  | _ => False
/-- how a contract is proved -/
theorem spec_mk (hm : C.P.follows .mixedOrders = true) (he : C.M.Enters) {f : FuncId} {fn : Func} {c : Code} {args : List AV} {Hin : List Block} {res : AV} {Hout : List (Nat × Option Block)} (nx : Nat) (hf : C.P.funcs[f]? = some fn) (hn : (fn.name == "runtime.NumGoroutine") = false) (hb : fn.body = some c)
    (hl : args.length ≤ fn.ntmps) (k : Nat) (hk : Hin.length = k) (h : vc C fn.ntmps k c ⟨tin 0 args, hin2 0 Hin, k⟩ (Left C k nx fn.results res Hout)) : Spec C f args Hin res Hout := by
  subst hk
  refine ⟨⟨fn, hf, hn, by rw [hb]; rfl⟩, fun E w x vs hvl hvs hh hU hok => he.callsOf hf hn hb ?_⟩
  have hI : Inv C.M fn.ntmps Hin.length E ⟨tin 0 args, hin2 0 Hin, Hin.length⟩ { tmps := vs.toArray ++ Array.replicate (fn.ntmps - vs.toArray.size) undef, defers := [] } w x := by
    refine ⟨⟨fun t => ?_, by simp; omega, rfl⟩, ?_, fun b hb => (hU b).1 hb, fun b hb => (hU b).2 hb, hok⟩
    · simp only [get_tin, Nat.zero_le, if_true, Nat.sub_zero]
      cases ha : args[t]? with
      | none => exact .any _
      | some x =>
        have := hvs t x ha
        have hlt : t < vs.length := by rw [hvl]; exact (List.getElem?_eq_some_iff.1 ha).1
        have e : (vs.toArray ++ Array.replicate (fn.ntmps - vs.toArray.size) undef).getD t undef = vs.getD t undef := by
          simp only [Array.getD_eq_getD_getElem?]
          rw [Array.getElem?_append_left (by simpa using hlt)]
          simp [List.getD]
        rw [e]; exact this
    · have : geth (hin2 0 Hin) = hin Hin := by funext b; rw [geth_hin2]; simp [hin]
      simp only [this]; exact hh
  refine C.sound.mono (vc_ok hm c _ _ h f E _ w x hI) fun e a' w' x' ⟨st', E', h1, h2, h3, hle⟩ => ?_
  have fin : (vRes C st' fn.results.toList fun r => ∃ l : List (Nat × Nat), renOk Hin.length nx l = true ∧ LeA (lk l) res (one r) ∧ AllH (lk l) (geth st'.H) Hout) → a'.defers = [] ∧ ∀ w₁, C.M.Rel w' w₁ → ∃ v, (results fn a'.tmps).run C.P w₁ = .ok v w₁ ∧ C.M.evs x' w₁ (seen C.P f ((results fn a'.tmps).events C.P w₁ #[])) ∧
      ∃ E', RepA w₁ E' res v ∧ HInv E' (geth Hout) w₁ ∧ Ext (· < Hin.length) E w E' w₁ ∧ C.M.ok x' E' w₁ ∧ C.M.le x w.heap.size x' := fun hv => by
    refine ⟨h2.t.df, fun w₁ hrel => ?_⟩
    obtain ⟨hheap, hio⟩ := C.sound.rel hrel
    obtain ⟨s1, s2⟩ := h2.h.same hheap hio
    have st₁ := h2.t.mono s2 (fun _ h => h) h2.h.prfr
    have hok₁ := C.sound.okExt h2.ok s2
    have h3 := h3.trans (s2.weaken fun b hb => h2.k b hb)
    obtain ⟨r, ⟨l, q1, q2, q3⟩, hr⟩ := vRes_run hv
    obtain ⟨ws, e1, e2, e3, e4⟩ := hr _ E' a' w₁ st₁ s1
    obtain ⟨g1, g2⟩ := ren_heap q1 s1 h2.k q3
    have hone : RepA w₁ E' (one r) (if h : ws.toArray.size = 1 then ws.toArray[0] else .tuple ws.toArray) := by
      unfold one
      split
      · rename_i x
        have hws : ws.length = 1 := e2
        rw [dif_pos (by simpa using hws)]
        have := e3 0 x rfl
        have h0 : 0 < ws.length := by omega
        simpa [List.getD, h0] using this
      · rename_i hne
        have hws : ¬ ws.toArray.size = 1 := fun h => by
          have : r.length = 1 := by rw [← e2]; simpa using h
          obtain ⟨x, hx⟩ := List.length_eq_one_iff.1 this
          exact hne x hx
        rw [dif_neg hws]
        exact .tup _ _ (by simpa using e2) fun k y hy => by
          have := e3 k y hy
          simpa [List.getD, Array.getD_eq_getD_getElem?] using this
    refine ⟨_, ?_, C.sound.evSub (C.sound.okEv (es := (results fn a'.tmps).events C.P w₁ #[]) hok₁ (w' := w₁) ?_) seen_sub, _, LeA.rep q2 hone, g1, h3.trans g2, C.sound.okExt hok₁ g2, hle⟩
    · rw [results_eq, Array.mapM_eq_mapM_toList, Sem.run_bind, Sem.run_map, e1]
      rfl
    · rw [results_eq, Array.mapM_eq_mapM_toList]
      refine .union fun ev hev => ?_
      rcases mem_seq hev (show _ = Result.ok ws.toArray w₁ by rw [Sem.run_map, e1]; rfl) with h | h
      · rw [Sem.events_map] at h; exact e4.one h
      · simp at h
  cases e with
  | normal => exact fin h1
  | ret => exact fin h1
  | _ => exact h1.elim
end
end Go.Proofs.YtdjoodbidcncaaaGreatDoor.AW

/- A call, by the callee's contract. -/
namespace Go.Proofs.YtdjoodbidcncaaaGreatDoor.AW
open Go

theorem RepC.frz {w : World} {E : Emb} {ns : List Nat} {c : CV} {v : Value} (h : RepC w E.pr c v) : RepC w (E.frz ns).pr c v := h.mono (fun _ _ => rfl) fun _ h => .inl h
theorem RepA.frz {w : World} {E : Emb} {ns : List Nat} {x : AV} {v : Value} (h : RepA w E x v) : RepA w (E.frz ns) x v := h.mono (E' := E.frz ns) (fun _ _ => rfl) (fun _ h => .inl h) fun _ h => ⟨h, rfl, rfl, .rfl⟩
theorem RepA.frz_mono {w : World} {E : Emb} {ns ms : List Nat} {x : AV} {v : Value} (hs : ∀ b ∈ ns, b ∈ ms) (h : RepA w (E.frz ns) x v) : RepA w (E.frz ms) x v :=
  h.mono (E := E.frz ns) (E' := E.frz ms) (fun _ _ => rfl) (fun _ h => h.imp id fun ⟨b, h1, h2⟩ => ⟨b, hs b h1, h2⟩) fun _ h => ⟨h, rfl, rfl, .rfl⟩

mutual
/-- a value handed over: rows and boxes that are not handed over as such are read only there -/
def vExp (bs : List Nat) (H : Nat → Option Block) : AV → (AV → List Nat → Prop) → Prop
  | .own b st o n cap, K => if bs.contains b then K (.own b st o n cap) [] else match H b with
    | some (.row st' es) => ck (st == st') <| o + n ≤ es.length ∧ K (.cv (.ro st ((es.drop o).take n) cap)) [b]
    | _ => False
  | .ptr b st i k, K => if bs.contains b then K (.ptr b st i k) [] else match H b with
    | some (.box l) => ck (i == 0) <| vFrz H (l.drop k) fun cs ns => K (.cv (.rp cs)) (b :: ns)
    | some (.row st' es) => ck (st == st') <| ∃ e, es[i]? = some e ∧ K (.cv (.rp (e.drop k))) [b]
    | _ => False
  | .agg cs, K => vExpL bs H cs fun r ns => K (.agg r) ns
  | .tup cs, K => vExpL bs H cs fun r ns => K (.tup r) ns
  | .ifc t v, K => vExp bs H v fun r ns => K (.ifc t r) ns
  | .fn f fs cs, K => vExpL bs H fs fun r ns => vExpL bs H cs fun q ms => K (.fn f r q) (ns ++ ms)
  | .any, K => K .any []
  | .cv c, K => K (.cv c) []
  | .mp b, K => bs.contains b = true ∧ K (.mp b) []
  | .ch b, K => bs.contains b = true ∧ K (.ch b) []
def vExpL (bs : List Nat) (H : Nat → Option Block) : List AV → (List AV → List Nat → Prop) → Prop
  | [], K => K [] []
  | x :: l, K => vExp bs H x fun y ns => vExpL bs H l fun r ms => K (y :: r) (ns ++ ms)
end

/-- what an export says -/
def ExpOk (bs : List Nat) (H : Nat → Option Block) (x y : AV) (ns : List Nat) : Prop := (∀ b ∈ ns, (∃ B, H b = some B)) ∧
  ∀ (H' : Nat → Option Block), (∀ b ∈ ns, H' b = H b) → ∀ E w, HInv E H' w → ∀ u, RepA w E x u → RepA w (E.frz ns) y u
def ExpOkL (bs : List Nat) (H : Nat → Option Block) (xs ys : List AV) (ns : List Nat) : Prop := (∀ b ∈ ns, (∃ B, H b = some B)) ∧ ys.length = xs.length ∧
  ∀ (H' : Nat → Option Block), (∀ b ∈ ns, H' b = H b) → ∀ E w, HInv E H' w → ∀ (k : Nat) (y : AV), ys[k]? = some y → ∃ x, xs[k]? = some x ∧ ∀ u, RepA w E x u → RepA w (E.frz ns) y u

theorem RepA.aggL {w : World} {E E' : Emb} {xs ys : List AV} {vs : Array Value} (hl : ys.length = xs.length) (h : ∀ (k : Nat) (y : AV), ys[k]? = some y → ∃ x, xs[k]? = some x ∧ ∀ u, RepA w E x u → RepA w E' y u)
    (hs : vs.size = xs.length) (hr : ∀ (k : Nat) (x : AV), xs[k]? = some x → RepA w E x (vs.getD k undef)) : vs.size = ys.length ∧ ∀ (k : Nat) (y : AV), ys[k]? = some y → RepA w E' y (vs.getD k undef) :=
  ⟨hs.trans hl.symm, fun k y hy => by obtain ⟨x, hx, g⟩ := h k y hy; exact g _ (hr k x hx)⟩

mutual
theorem vExp_out {bs : List Nat} {H : Nat → Option Block} : ∀ {x : AV} {K : AV → List Nat → Prop}, vExp bs H x K → ∃ y ns, K y ns ∧ (∀ b ∈ ns, b ∉ bs ∨ (∃ B, H b = some B)) ∧ ExpOk bs H x y ns
  | .own b st o n cap, K, h => by
    simp only [vExp] at h
    split at h
    · exact ⟨_, [], h, by simp, by simp, fun _ _ E w _ u hu => hu.frz⟩
    · split at h
      · rename_i st' es hb
        replace h := ck_out h
        obtain ⟨hst, hl, h⟩ := h
        have hst : st = st' := by simpa using hst
        subst hst
        exact ⟨_, [b], h, by simpa using .inr ⟨_, hb⟩, by simpa using ⟨_, hb⟩, fun H' hH E w hi u hu => .cv _ _ (own_ro hi ((hH b (by simp)).trans hb) hu hl (fun _ h => .inl h) fun g => .inr ⟨b, by simp, g, rfl⟩)⟩
      · exact h.elim
  | .ptr b st i k, K, h => by
    simp only [vExp] at h
    split at h
    · exact ⟨_, [], h, by simp, by simp, fun _ _ E w _ u hu => hu.frz⟩
    · split at h
      · rename_i l hb
        replace h := ck_out h
        obtain ⟨hi0, h⟩ := h
        have hi0 : i = 0 := by simpa using hi0
        obtain ⟨cs, ns, hk, hlen, hB, hc⟩ := vFrz_out h
        have live : ∀ c ∈ b :: ns, ∃ B, H c = some B := fun c hc => by
          rcases List.mem_cons.1 hc with rfl | hc
          · exact ⟨_, hb⟩
          · exact hB c hc
        refine ⟨_, b :: ns, hk, fun c hc => .inr (live c hc), live, fun H' hH E w hi u hu => ?_⟩
        obtain ⟨hU, rfl⟩ := rep_ptr hu
        have hg := rep_ptr_g hu
        obtain ⟨_, cells, p, q1, q2, q3⟩ := hi.hp b _ ((hH b (by simp)).trans hb)
        refine .cv _ _ (.rp _ _ (fun q => cells.getD (k + q) undef) rfl (.inr ⟨b, by simp, hg, rfl⟩) (fun q y hy => ?_) fun q y hy => ?_)
        · have hq := (List.getElem?_eq_some_iff.1 hy).1
          rw [hlen] at hq
          simp at hq
          have hlt : k + q < cells.size := by omega
          subst hi0
          simp [cellAt, p.cell, Array.getD_eq_getD_getElem?, hlt]
        · obtain ⟨z, hz, hzr⟩ := hc H' (fun c hc => hH c (by simp [hc])) E w hi (E.frz (b :: ns)).pr (fun _ h => .inl h) (fun c hc hg => .inr ⟨c, by simp [hc], hg, rfl⟩) q y hy
          rw [List.getElem?_drop] at hz
          exact hzr _ (q3 _ z hz)
      · rename_i st' es hb
        replace h := ck_out h
        obtain ⟨hst, e, he, h⟩ := h
        have hst : st = st' := by simpa using hst
        subst hst
        refine ⟨_, [b], h, by simpa using .inr ⟨_, hb⟩, by simpa using ⟨_, hb⟩, fun H' hH E w hi u hu => ?_⟩
        obtain ⟨hU, rfl⟩ := rep_ptr hu
        have hg := rep_ptr_g hu
        obtain ⟨_, cells, p, q1, q2, q3, q4⟩ := (hi.hp b _ ((hH b (by simp)).trans hb)).resolve_left fun g => hg g.1
        refine .cv _ _ (.rp _ _ (fun q => cells.getD (i * st + (k + q)) undef) rfl (.inr ⟨b, by simp, hg, rfl⟩) (fun q y hy => ?_) fun q y hy => ?_)
        · rw [List.getElem?_drop] at hy
          have hq := (List.getElem?_eq_some_iff.1 hy).1
          rw [q3 e (List.mem_of_getElem? he)] at hq
          have hil := (List.getElem?_eq_some_iff.1 he).1
          have h2 : (i + 1) * st ≤ es.length * st := Nat.mul_le_mul_right _ hil
          rw [Nat.succ_mul] at h2
          have hlt : i * st + k + q < cells.size := by omega
          simp [cellAt, p.cell, Array.getD_eq_getD_getElem?, hlt, ← Nat.add_assoc]
        · rw [List.getElem?_drop] at hy
          exact (q4 i e (k + q) y he hy).frz
      · exact h.elim
  | .agg cs, K, h => by
    simp only [vExp] at h
    obtain ⟨r, ns, hk, hn, h1, h2, h3⟩ := vExpL_out h
    exact ⟨_, ns, hk, hn, h1, fun H' hH E w hi u hu => by
      obtain ⟨vs, rfl, hs, hr⟩ := rep_agg hu
      obtain ⟨a1, a2⟩ := RepA.aggL h2 (h3 H' hH E w hi) hs hr
      exact .agg _ _ a1 a2⟩
  | .tup cs, K, h => by
    simp only [vExp] at h
    obtain ⟨r, ns, hk, hn, h1, h2, h3⟩ := vExpL_out h
    exact ⟨_, ns, hk, hn, h1, fun H' hH E w hi u hu => by
      obtain ⟨vs, rfl, hs, hr⟩ := rep_tup hu
      obtain ⟨a1, a2⟩ := RepA.aggL h2 (h3 H' hH E w hi) hs hr
      exact .tup _ _ a1 a2⟩
  | .ifc t v, K, h => by
    simp only [vExp] at h
    obtain ⟨r, ns, hk, hn, h1, h2⟩ := vExp_out h
    exact ⟨_, ns, hk, hn, h1, fun H' hH E w hi u hu => by
      obtain ⟨v, rfl, hv⟩ := rep_ifc hu
      exact .ifc _ _ _ (h2 H' hH E w hi v hv)⟩
  | .fn f fs cs, K, h => by
    simp only [vExp] at h
    obtain ⟨r, ns, h, hn, h1, h2, h3⟩ := vExpL_out h
    obtain ⟨q, ms, hk, hm, g1, g2, g3⟩ := vExpL_out h
    refine ⟨_, ns ++ ms, hk, fun b hb => (List.mem_append.1 hb).elim (hn b) (hm b), fun b hb => (List.mem_append.1 hb).elim (h1 b) (g1 b), fun H' hH E w hi u hu => ?_⟩
    cases hu with
    | fn _ _ _ a b ha hb hf hg =>
      obtain ⟨a1, a2⟩ := RepA.aggL h2 (h3 H' (fun b hb => hH b (List.mem_append.2 (.inl hb))) E w hi) ha hf
      obtain ⟨b1, b2⟩ := RepA.aggL g2 (g3 H' (fun b hb => hH b (List.mem_append.2 (.inr hb))) E w hi) hb hg
      exact .fn _ _ _ _ _ a1 b1 (fun k y hy => (a2 k y hy).frz_mono fun b hb => List.mem_append.2 (.inl hb)) (fun k y hy => (b2 k y hy).frz_mono fun b hb => List.mem_append.2 (.inr hb))
  | .any, K, h => ⟨_, [], h, by simp, by simp, fun _ _ E w _ u hu => hu.frz⟩
  | .cv c, K, h => ⟨_, [], h, by simp, by simp, fun _ _ E w _ u hu => hu.frz⟩
  | .mp b, K, h => ⟨_, [], h.2, by simp, by simp, fun _ _ E w _ u hu => hu.frz⟩
  | .ch b, K, h => ⟨_, [], h.2, by simp, by simp, fun _ _ E w _ u hu => hu.frz⟩
theorem vExpL_out {bs : List Nat} {H : Nat → Option Block} : ∀ {xs : List AV} {K : List AV → List Nat → Prop}, vExpL bs H xs K → ∃ ys ns, K ys ns ∧ (∀ b ∈ ns, b ∉ bs ∨ (∃ B, H b = some B)) ∧ ExpOkL bs H xs ys ns
  | [], K, h => ⟨[], [], h, by simp, by simp, rfl, fun _ _ _ _ _ k y hy => by simp at hy⟩
  | x :: l, K, h => by
    simp only [vExpL] at h
    obtain ⟨y, ns, h, hn, h1, h2⟩ := vExp_out h
    obtain ⟨r, ms, hk, hm, g1, g2, g3⟩ := vExpL_out h
    refine ⟨y :: r, ns ++ ms, hk, fun b hb => (List.mem_append.1 hb).elim (hn b) (hm b), fun b hb => (List.mem_append.1 hb).elim (h1 b) (g1 b), by simp [g2], fun H' hH E w hi k z hz => ?_⟩
    cases k with
    | zero =>
      simp only [List.getElem?_cons_zero, Option.some.injEq] at hz
      subst hz
      exact ⟨x, rfl, fun u hu => (h2 H' (fun b hb => hH b (List.mem_append.2 (.inl hb))) E w hi u hu).frz_mono fun b hb => List.mem_append.2 (.inl hb)⟩
    | succ k =>
      obtain ⟨z', hz', g⟩ := g3 H' (fun b hb => hH b (List.mem_append.2 (.inr hb))) E w hi k z (by simpa using hz)
      exact ⟨z', by simpa using hz', fun u hu => (g u hu).frz_mono fun b hb => List.mem_append.2 (.inr hb)⟩
end
end Go.Proofs.YtdjoodbidcncaaaGreatDoor.AW

/- A call, by the callee's contract: the rule. -/
namespace Go.Proofs.YtdjoodbidcncaaaGreatDoor.AW
open Go

mutual
/-- names turned -/
def renA (μ : Nat → Nat) : AV → AV
  | .ptr b st i k => .ptr (μ b) st i k
  | .own b st o n cap => .own (μ b) st o n cap
  | .agg cs => .agg (renL μ cs)
  | .tup cs => .tup (renL μ cs)
  | .ifc t v => .ifc t (renA μ v)
  | .fn f fs cs => .fn f (renL μ fs) (renL μ cs)
  | .mp b => .mp (μ b)
  | .ch b => .ch (μ b)
  | x => x
def renL (μ : Nat → Nat) : List AV → List AV
  | [] => []
  | x :: l => renA μ x :: renL μ l
end
def renB (μ : Nat → Nat) : Block → Block
  | .box cs => .box (renL μ cs)
  | .row st es => .row st es
  | .mp es => .mp es
  | .ch cap es shut => .ch cap es shut
mutual
/-- all names are below n -/
def nmA (n : Nat) : AV → Bool
  | .ptr b _ _ _ => decide (b < n)
  | .own b _ _ _ _ => decide (b < n)
  | .agg cs => nmL n cs
  | .tup cs => nmL n cs
  | .ifc _ v => nmA n v
  | .fn _ fs cs => nmL n fs && nmL n cs
  | .mp b => decide (b < n)
  | .ch b => decide (b < n)
  | _ => true
def nmL (n : Nat) : List AV → Bool
  | [] => true
  | x :: l => nmA n x && nmL n l
end
def nmB (n : Nat) : Block → Bool
  | .box cs => nmL n cs
  | .row _ _ => true
  | .mp _ => true
  | .ch .. => true
def IsSc : CV → Prop
  | .sc _ => True
  | .ifc _ c => IsSc c
  | _ => False
mutual
/-- nothing in it is read only memory -/
def NoR : AV → Prop
  | .cv c => IsSc c
  | .agg cs => NoRL cs
  | .tup cs => NoRL cs
  | .ifc _ v => NoR v
  | .fn _ fs cs => NoRL fs ∧ NoRL cs
  | _ => True
def NoRL : List AV → Prop
  | [] => True
  | x :: l => NoR x ∧ NoRL l
end
def NoRB : Block → Prop
  | .box cs => NoRL cs
  | .row _ es => ∀ e ∈ es, ∀ c ∈ e, IsSc c
  | .mp es => ∀ e ∈ es, ∀ c ∈ e.2, IsSc c
  | .ch _ es _ => ∀ c ∈ es, IsSc c
def NoRH : List (Nat × Option Block) → Prop
  | [] => True
  | (_, none) :: l => NoRH l
  | (_, some B) :: l => NoRB B ∧ NoRH l
def nmH (n : Nat) : List (Nat × Option Block) → Bool
  | [] => true
  | (b, none) :: l => nmH n l
  | (b, some B) :: l => decide (b < n) && nmB n B && nmH n l
theorem NoRH.out : ∀ {l : List (Nat × Option Block)} {b : Nat} {B : Block}, NoRH l → geth l b = some B → NoRB B
  | (c, none) :: l, b, B, h, hb => by
    simp only [NoRH] at h; simp only [geth] at hb
    split at hb
    · cases hb
    · exact NoRH.out h hb
  | (c, some D) :: l, b, B, h, hb => by
    simp only [NoRH] at h; simp only [geth] at hb
    split at hb
    · cases hb; exact h.1
    · exact NoRH.out h.2 hb
theorem nmH_out {n : Nat} : ∀ {l : List (Nat × Option Block)} {b : Nat} {B : Block}, nmH n l = true → geth l b = some B → b < n ∧ nmB n B = true
  | (c, none) :: l, b, B, h, hb => by
    simp only [nmH] at h; simp only [geth] at hb
    split at hb
    · cases hb
    · exact nmH_out h hb
  | (c, some D) :: l, b, B, h, hb => by
    simp only [nmH, Bool.and_eq_true, decide_eq_true_eq] at h; simp only [geth] at hb
    split at hb
    · rename_i e
      have := Nat.eq_of_beq_eq_true e
      cases hb; subst this; exact h.1
    · exact nmH_out h.2 hb

theorem IsSc.rep {w w' : World} {pr pr' : Nat → Prop} : ∀ {c : CV} {v : Value}, IsSc c → RepC w pr c v → RepC w' pr' c v
  | .sc u, v, _, h => by cases h with | sc _ ho => exact .sc _ ho
  | .ifc t c, v, hs, h => by cases h with | ifc _ _ u hu => exact .ifc _ _ _ (IsSc.rep hs hu)
/-- a value of the callee's, told by the caller's names -/
structure Turn (w : World) (n : Nat) (μ : Nat → Nat) (E E' : Emb) : Prop where
  nm : ∀ b, b < n → E.U b → E'.U (μ b) ∧ E'.blk (μ b) = E.blk b ∧ E'.sz (μ b) = E.sz b ∧ (E'.gh (μ b) ↔ E.gh b)
mutual
theorem renA_rep {w : World} {n : Nat} {μ : Nat → Nat} {E E' : Emb} (ht : Turn w n μ E E') : ∀ {x : AV} {v : Value}, nmA n x = true → ((∀ r, E.pr r → E'.pr r) ∨ NoR x) → RepA w E x v → RepA w E' (renA μ x) v
  | .any, v, _, _, _ => .any v
  | .cv c, v, _, hp, h => by
    cases h with
    | cv _ _ h =>
      rcases hp with hp | hp
      · exact .cv _ _ (h.mono (fun _ _ => rfl) hp)
      · exact .cv _ _ (IsSc.rep hp h)
  | .ptr b st i k, v, hn, _, h => by
    obtain ⟨hU, rfl⟩ := rep_ptr h
    have hg := rep_ptr_g h
    simp only [nmA, decide_eq_true_eq] at hn
    obtain ⟨a1, a2, a3, a4⟩ := ht.nm b hn hU
    rw [← a2]; exact .ptr _ _ _ _ a1 fun g => hg (a4.1 g)
  | .own b st o m cap, v, hn, _, h => by
    obtain ⟨c, a, rfl, hU, hnc, hc, hh⟩ := rep_own h
    simp only [nmA, decide_eq_true_eq] at hn
    obtain ⟨a1, a2, a3, a4⟩ := ht.nm b hn hU
    rcases hh with ⟨hg, rfl, hs⟩ | ⟨hg, rfl, rfl⟩
    · rw [← a2]; exact .own _ _ _ _ _ _ a1 (fun g => hg (a4.1 g)) hnc hc (a3 ▸ hs)
    · exact .own0 _ _ _ _ _ a1 (a4.2 hg) fun x hx => (hc x hx).symm
  | .agg cs, v, hn, hp, h => by
    obtain ⟨vs, rfl, hs, hr⟩ := rep_agg h
    obtain ⟨g1, g2⟩ := renL_rep ht (xs := cs) (by simpa [nmA] using hn) (hp.imp id (by simp [NoR]))
    exact .agg _ _ (hs.trans g1.symm) fun k y hy => by obtain ⟨x, hx, g⟩ := g2 k y hy; exact g _ (hr k x hx)
  | .tup cs, v, hn, hp, h => by
    obtain ⟨vs, rfl, hs, hr⟩ := rep_tup h
    obtain ⟨g1, g2⟩ := renL_rep ht (xs := cs) (by simpa [nmA] using hn) (hp.imp id (by simp [NoR]))
    exact .tup _ _ (hs.trans g1.symm) fun k y hy => by obtain ⟨x, hx, g⟩ := g2 k y hy; exact g _ (hr k x hx)
  | .ifc t c, v, hn, hp, h => by
    obtain ⟨u, rfl, hu⟩ := rep_ifc h
    exact .ifc _ _ _ (renA_rep ht (by simpa [nmA] using hn) (hp.imp id (by simp [NoR])) hu)
  | .fn f fs cs, v, hn, hp, h => by
    simp only [nmA, Bool.and_eq_true] at hn
    obtain ⟨g1, g2⟩ := renL_rep ht (xs := fs) hn.1 (hp.imp id fun h => by simp only [NoR] at h; exact h.1)
    obtain ⟨k1, k2⟩ := renL_rep ht (xs := cs) hn.2 (hp.imp id fun h => by simp only [NoR] at h; exact h.2)
    cases h with
    | fn _ _ _ a b ha hb hf hg =>
      exact .fn _ _ _ _ _ (ha.trans g1.symm) (hb.trans k1.symm) (fun k y hy => by obtain ⟨x, hx, g⟩ := g2 k y hy; exact g _ (hf k x hx)) (fun k y hy => by obtain ⟨x, hx, g⟩ := k2 k y hy; exact g _ (hg k x hx))
  | .ch b, v, hn, _, h => by
    cases h with
    | ch _ hU hg =>
      simp only [nmA, decide_eq_true_eq] at hn
      obtain ⟨a1, a2, a3, a4⟩ := ht.nm b hn hU
      rw [← a2]; exact .ch _ a1 fun g => hg (a4.1 g)
  | .mp b, v, hn, _, h => by
    cases h with
    | mp _ hU hg =>
      simp only [nmA, decide_eq_true_eq] at hn
      obtain ⟨a1, a2, a3, a4⟩ := ht.nm b hn hU
      rw [← a2]; exact .mp _ a1 fun g => hg (a4.1 g)
theorem renL_rep {w : World} {n : Nat} {μ : Nat → Nat} {E E' : Emb} (ht : Turn w n μ E E') : ∀ {xs : List AV}, nmL n xs = true → ((∀ r, E.pr r → E'.pr r) ∨ NoRL xs) → (renL μ xs).length = xs.length ∧ ∀ (k : Nat) (y : AV), (renL μ xs)[k]? = some y → ∃ x, xs[k]? = some x ∧ ∀ v, RepA w E x v → RepA w E' y v
  | [], _, _ => ⟨rfl, fun k y hy => by simp [renL] at hy⟩
  | x :: l, hn, hp => by
    simp only [nmL, Bool.and_eq_true] at hn
    obtain ⟨h1, h2⟩ := renL_rep ht (xs := l) hn.2 (hp.imp id fun h => by simp only [NoRL] at h; exact h.2)
    refine ⟨by simp [renL, h1], fun k y hy => ?_⟩
    cases k with
    | zero =>
      simp only [renL, List.getElem?_cons_zero, Option.some.injEq] at hy
      subst hy
      exact ⟨x, rfl, fun v hv => renA_rep ht hn.1 (hp.imp id fun h => by simp only [NoRL] at h; exact h.1) hv⟩
    | succ k => simpa using h2 k y (by simpa [renL] using hy)
end
theorem renB_rep {w : World} {n : Nat} {μ : Nat → Nat} {E E' : Emb} (ht : Turn w n μ E E') {b : Nat} {B : Block} (hb : b < n) (hU : E.U b) (hn : nmB n B = true) (hp : (∀ r, E.pr r → E'.pr r) ∨ NoRB B) (h : RepB w E b B) : RepB w E' (μ b) (renB μ B) := by
  obtain ⟨a1, a2, a3, a4⟩ := ht.nm b hb hU
  cases B with
  | box cs =>
    obtain ⟨hg, cells, p, q1, q2, q3⟩ := h
    obtain ⟨g1, g2⟩ := renL_rep ht (xs := cs) (by simpa [nmB] using hn) (hp.imp id (by simp [NoRB]))
    refine ⟨fun g => hg (a4.1 g), cells, by rw [a2]; exact p, by rw [a3]; exact q1, by omega, fun k y hy => ?_⟩
    obtain ⟨x, hx, g⟩ := g2 k y hy
    exact g _ (q3 k x hx)
  | row st es =>
    rcases h with ⟨hg, he⟩ | ⟨hg, cells, p, q1, q2, q3, q4⟩
    · exact .inl ⟨a4.2 hg, he⟩
    · refine .inr ⟨fun g => hg (a4.1 g), cells, by rw [a2]; exact p, by rw [a3]; exact q1, q2, q3, fun i e k x hi hx => ?_⟩
      rcases hp with hp | hp
      · exact (q4 i e k x hi hx).mono (fun _ _ => rfl) hp
      · exact IsSc.rep (hp e (List.mem_of_getElem? hi) x (List.mem_of_getElem? hx)) (q4 i e k x hi hx)
  | mp es =>
    obtain ⟨hg, ents, cl, p, q1, q2⟩ := h
    refine ⟨fun g => hg (a4.1 g), ents, cl, by rw [a2]; exact p, q1, fun k z x hx => ?_⟩
    obtain ⟨e, e1, e2, e3⟩ := q2 k z x hx
    refine ⟨e, e1, e2, ?_⟩
    rcases hp with hp | hp
    · exact e3.mono (fun _ _ => rfl) hp
    · have hs := hp _ (List.mem_of_getElem? hx)
      unfold RepM at e3 ⊢
      split at e3
      · exact IsSc.rep (hs _ (by simp)) e3
      · obtain ⟨vs, g1, g2, g3⟩ := e3
        exact ⟨vs, g1, g2, fun q c hc => IsSc.rep (hs c (List.mem_of_getElem? hc)) (g3 q c hc)⟩
  | ch cap es shut =>
    obtain ⟨hg, buf, s, r, tm, p, q1, q2⟩ := h
    refine ⟨fun g => hg (a4.1 g), buf, s, r, tm, by rw [a2]; exact p, q1, fun k x hx => ?_⟩
    rcases hp with hp | hp
    · exact (q2 k x hx).mono (fun _ _ => rfl) hp
    · exact IsSc.rep (hp x (List.mem_of_getElem? hx)) (q2 k x hx)

/-- the blocks handed over as such -/
def vPass (bs : List Nat) (H : Nat → Option Block) (σ : Nat → Option Nat) : List Nat → List Block → (List Nat → Prop) → Prop
  | [], [], K => K []
  | b :: l, B :: m, K => match H b, B with
    | some (.row st es), .row st' es' => st = st' ∧ es = es' ∧ vPass bs H σ l m K
    | some (.mp es), .mp es' => es = es' ∧ vPass bs H σ l m K
    | some (.box xs), .box ys => vExpL bs H xs fun zs ns => LeL σ ys zs ∧ vPass bs H σ l m fun ms => K (ns ++ ms)
    | _, _ => False
  | _, _, _ => False
def PassOk (w : World) (E : Emb) (σ : Nat → Option Nat) (ns : List Nat) (b i : Nat) (B : Block) : Prop := ∀ E', (∀ y v, RepA w ((E.frz ns).ren σ) y v → RepA w E' y v) → (∀ r, (E.frz ns).pr r → E'.pr r) → E'.blk i = E.blk b → E'.sz i = E.sz b → (E'.gh i ↔ E.gh b) → RepB w E' i B
theorem vPass_out {bs : List Nat} {H : Nat → Option Block} {σ : Nat → Option Nat} : ∀ {l : List Nat} {m : List Block} {K : List Nat → Prop}, vPass bs H σ l m K → ∃ ns, K ns ∧ (∀ b ∈ ns, (∃ B, H b = some B)) ∧ l.length = m.length ∧ (∀ b ∈ l, ∃ B, H b = some B) ∧
    ∀ (H' : Nat → Option Block), (∀ b ∈ ns, H' b = H b) → (∀ b ∈ l, H' b = H b) → ∀ E w, HInv E H' w → ∀ ms, (∀ b ∈ ns, b ∈ ms) → ∀ (i b : Nat) (B : Block), l[i]? = some b → m[i]? = some B → ∀ j, PassOk w E σ ms b j B
  | [], [], K, h => ⟨[], h, by simp, rfl, by simp, fun _ _ _ _ _ _ _ _ i b B hi => by simp at hi⟩
  | b :: l, B :: m, K, h => by
    simp only [vPass] at h
    split at h
    · rename_i st es st' es' hb
      obtain ⟨rfl, rfl, h⟩ := h
      obtain ⟨ns, hk, h1, h2, h3, h4⟩ := vPass_out h
      refine ⟨ns, hk, h1, by simp [h2], fun c hc => ?_, fun H' hH hL E w hi ms hm i c B hci hB => ?_⟩
      · rcases List.mem_cons.1 hc with rfl | hc
        · exact ⟨_, hb⟩
        · exact h3 c hc
      · cases i with
        | zero =>
          simp only [List.getElem?_cons_zero, Option.some.injEq] at hci hB
          subst hci; subst hB
          intro j E' _ hpr e1 e2 e3
          rcases hi.hp b _ ((hL b (by simp)).trans hb) with ⟨hg, he⟩ | ⟨hg, cells, p, q1, q2, q3, q4⟩
          · exact .inl ⟨e3.2 hg, he⟩
          · exact .inr ⟨fun g => hg (e3.1 g), cells, by rw [e1]; exact p, by rw [e2]; exact q1, q2, q3, fun i e k x hi hx => (q4 i e k x hi hx).mono (fun _ _ => rfl) fun r hr => hpr r (.inl hr)⟩
        | succ i => exact h4 H' hH (fun c hc => hL c (by simp [hc])) E w hi ms hm i c B (by simpa using hci) (by simpa using hB)
    · rename_i es es' hb
      obtain ⟨rfl, h⟩ := h
      obtain ⟨ns, hk, h1, h2, h3, h4⟩ := vPass_out h
      refine ⟨ns, hk, h1, by simp [h2], fun c hc => ?_, fun H' hH hL E w hi ms hm i c B hci hB => ?_⟩
      · rcases List.mem_cons.1 hc with rfl | hc
        · exact ⟨_, hb⟩
        · exact h3 c hc
      · cases i with
        | zero =>
          simp only [List.getElem?_cons_zero, Option.some.injEq] at hci hB
          subst hci; subst hB
          intro j E' _ hpr e1 e2 e3
          obtain ⟨hg, ents, cl, p, q1, q2⟩ := hi.hp b _ ((hL b (by simp)).trans hb)
          exact ⟨fun g => hg (e3.1 g), ents, cl, by rw [e1]; exact p, q1, fun k z x hx => by obtain ⟨e, f1, f2, f3⟩ := q2 k z x hx; exact ⟨e, f1, f2, f3.mono (fun _ _ => rfl) fun r hr => hpr r (.inl hr)⟩⟩
        | succ i => exact h4 H' hH (fun c hc => hL c (by simp [hc])) E w hi ms hm i c B (by simpa using hci) (by simpa using hB)
    · rename_i xs ys hb
      obtain ⟨zs, ns0, ⟨hle, h⟩, hn0, g1, g2, g3⟩ := vExpL_out h
      obtain ⟨ns, hk, h1, h2, h3, h4⟩ := vPass_out h
      refine ⟨ns0 ++ ns, hk, fun c hc => (List.mem_append.1 hc).elim (g1 c) (h1 c), by simp [h2], fun c hc => ?_, fun H' hH hL E w hi ms hm i c B hci hB => ?_⟩
      · rcases List.mem_cons.1 hc with rfl | hc
        · exact ⟨_, hb⟩
        · exact h3 c hc
      · cases i with
        | zero =>
          simp only [List.getElem?_cons_zero, Option.some.injEq] at hci hB
          subst hci; subst hB
          intro j E' hE' _ e1 e2 e3
          obtain ⟨hg, cells, p, q1, q2, q3⟩ := hi.hp b _ ((hL b (by simp)).trans hb)
          obtain ⟨l1, l2⟩ := LeL.rep hle (w := w) (E := E.frz ms)
          refine ⟨fun g => hg (e3.1 g), cells, by rw [e1]; exact p, by rw [e2]; exact q1, by omega, fun k y hy => ?_⟩
          obtain ⟨z, hz, hzr⟩ := l2 k y hy
          obtain ⟨x, hx, hxr⟩ := g3 H' (fun c hc => hH c (List.mem_append.2 (.inl hc))) E w hi k z hz
          exact hE' _ _ (hzr _ ((hxr _ (q3 k x hx)).frz_mono fun c hc => hm c (List.mem_append.2 (.inl hc))))
        | succ i => exact h4 H' (fun c hc => hH c (List.mem_append.2 (.inr hc))) (fun c hc => hL c (by simp [hc])) E w hi ms (fun c hc => hm c (List.mem_append.2 (.inr hc))) i c B (by simpa using hci) (by simpa using hB)
    · exact h.elim
end Go.Proofs.YtdjoodbidcncaaaGreatDoor.AW

/- A call, by the callee's contract: the proof of the rule. -/
namespace Go.Proofs.YtdjoodbidcncaaaGreatDoor.AW
open Go

def fnOf : AV → Option (FuncId × List AV × List AV)
  | .cv (.sc (.func (.func f) a b)) => if a.isEmpty && b.isEmpty then some (f, [], []) else none
  | .fn (.func f) fs cs => some (f, fs, cs)
  | _ => none
def mu (bs : List Nat) (k nx : Nat) (c : Nat) : Nat := if c < k then bs.getD c 0 else nx + (c - k)
def wrs (bs NS : List Nat) (k nx m : Nat) (drop : Bool) (Hout : List (Nat × Option Block)) : List (Nat × Option Block) :=
  (if drop then gone NS else []) ++ ((List.range k).map (fun i => (bs.getD i 0, (geth Hout i).map (renB (mu bs k nx)))) ++ (List.range m).map fun j => (nx + j, (geth Hout (k + j)).map (renB (mu bs k nx))))

theorem nodup_inj {α : Type} {l : List α} (h : l.Nodup) {i j : Nat} {hi : i < l.length} {hj : j < l.length} (e : l[i] = l[j]) : i = j := by
  have h := List.pairwise_iff_getElem.1 h
  rcases Nat.lt_trichotomy i j with g | g | g
  · exact absurd e (h i j hi hj g)
  · exact g
  · exact absurd e.symm (h j i hj hi g)
theorem updH_map {H : Nat → Option Block} (g : Nat → Nat) (F : Nat → Option Block) : ∀ (L : List Nat), (∀ i ∈ L, ∀ j ∈ L, g i = g j → i = j) → L.Nodup → ∀ b, (∀ j ∈ L, g j = b → updH H (L.map fun j => (g j, F j)) b = F j) ∧ ((∀ j ∈ L, g j ≠ b) → updH H (L.map fun j => (g j, F j)) b = H b) := by
  intro L
  induction L generalizing H with
  | nil => intro _ _ b; exact ⟨by simp, fun _ => rfl⟩
  | cons i L ih =>
    intro hg hn b
    obtain ⟨h1, h2⟩ := List.nodup_cons.1 hn
    obtain ⟨a1, a2⟩ := ih (H := setH H (g i) (F i)) (fun i hi j hj => hg i (List.mem_cons_of_mem _ hi) j (List.mem_cons_of_mem _ hj)) h2 b
    simp only [List.map_cons, updH]
    refine ⟨fun j hj e => ?_, fun h => ?_⟩
    · rcases List.mem_cons.1 hj with rfl | hj
      · rw [a2 fun j' hj' e' => h1 (hg j' (List.mem_cons_of_mem _ hj') j (List.mem_cons_self ..) (e'.trans e.symm) ▸ hj')]
        simp [setH, e]
      · exact a1 j hj e
    · rw [a2 fun j hj => h j (List.mem_cons_of_mem _ hj)]
      have := h i (List.mem_cons_self ..)
      simp [setH, Ne.symm this]

/-- what the blocks are behind a call -/
theorem wrs_out {H : Nat → Option Block} {bs NS : List Nat} {k nx m : Nat} {drop : Bool} {Hout : List (Nat × Option Block)} (hl : bs.length = k) (hn : bs.Nodup) (hlt : ∀ b ∈ bs, ¬ (nx ≤ b ∧ b < nx + m)) {b : Nat} {B : Block} (h : updH H (wrs bs NS k nx m drop Hout) b = some B) :
    (∃ c B0, c < k + m ∧ mu bs k nx c = b ∧ geth Hout c = some B0 ∧ B = renB (mu bs k nx) B0) ∨ (H b = some B ∧ b ∉ bs ∧ ¬ (nx ≤ b ∧ b < nx + m) ∧ (drop = true → b ∉ NS)) := by
  unfold wrs at h
  rw [updH_app, updH_app] at h
  have gi : ∀ i ∈ List.range k, ∀ j ∈ List.range k, bs.getD i 0 = bs.getD j 0 → i = j := fun i hi j hj e => by
    have hi := List.mem_range.1 hi
    have hj := List.mem_range.1 hj
    have h1 : i < bs.length := by omega
    have h2 : j < bs.length := by omega
    simp only [List.getD, List.getElem?_eq_getElem h1, List.getElem?_eq_getElem h2, Option.getD_some] at e
    exact nodup_inj hn e
  by_cases h1 : nx ≤ b ∧ b < nx + m
  · have := (updH_map (H := updH (updH H (if drop then gone NS else [])) ((List.range k).map fun i => (bs.getD i 0, (geth Hout i).map (renB (mu bs k nx))))) (fun j => nx + j) (fun j => (geth Hout (k + j)).map (renB (mu bs k nx))) (List.range m) (fun i _ j _ e => by omega) List.nodup_range b).1 (b - nx) (List.mem_range.2 (by omega)) (by omega)
    rw [this] at h
    simp only [Option.map_eq_some_iff] at h
    obtain ⟨B0, h2, rfl⟩ := h
    exact .inl ⟨k + (b - nx), B0, by omega, by unfold mu; rw [if_neg (by omega)]; omega, h2, rfl⟩
  · have := (updH_map (H := updH (updH H (if drop then gone NS else [])) ((List.range k).map fun i => (bs.getD i 0, (geth Hout i).map (renB (mu bs k nx))))) (fun j => nx + j) (fun j => (geth Hout (k + j)).map (renB (mu bs k nx))) (List.range m) (fun i _ j _ e => by omega) List.nodup_range b).2 (fun j hj => by have := List.mem_range.1 hj; omega)
    rw [this] at h
    by_cases h2 : b ∈ bs
    · obtain ⟨i, hi, rfl⟩ := List.getElem_of_mem h2
      have := (updH_map (H := updH H (if drop then gone NS else [])) (fun i => bs.getD i 0) (fun i => (geth Hout i).map (renB (mu bs k nx))) (List.range k) gi List.nodup_range bs[i]).1 i (List.mem_range.2 (by omega)) (by simp [List.getD, hi])
      rw [this] at h
      simp only [Option.map_eq_some_iff] at h
      obtain ⟨B0, h3, rfl⟩ := h
      exact .inl ⟨i, B0, by omega, by unfold mu; rw [if_pos (by omega)]; simp [List.getD, hi], h3, rfl⟩
    · have := (updH_map (H := updH H (if drop then gone NS else [])) (fun i => bs.getD i 0) (fun i => (geth Hout i).map (renB (mu bs k nx))) (List.range k) gi List.nodup_range b).2 (fun j hj e => h2 (by
        have hj := List.mem_range.1 hj
        have h1 : j < bs.length := by omega
        rw [← e]; simp [List.getD, h1]))
      rw [this] at h
      right
      cases drop with
      | false => exact ⟨by simpa [updH] using h, h2, h1, by simp⟩
      | true =>
        simp only [if_true, updH_gone] at h
        split at h
        · cases h
        · exact ⟨h, h2, h1, fun _ => by assumption⟩

section
variable {C : Ctx} {o : Oper} {N : Nat} {T : Nat → AV} {H : Nat → Option Block}

theorem run_enter {a : Act} {w : World} {x : Operand} {args : Array Operand} {ats : Array TypeId} (ho : o.op = .call { callee := .value x, args := args, argTypes := ats }) {f : FuncId} {fs cs : Array Value} (hx : a.eval x = .func (.func f) fs cs) (hb : Bodied C.P f) :
    (execOp a.eval o).run C.P w = .ok (.enter f (fs ++ args.map a.eval ++ cs)) w ∧ (execOp a.eval o).events C.P w #[] = #[] := by
  obtain ⟨fn, h1, h2, h3⟩ := hb
  simp only [execOp, ho, resolve, hx, Deferred.ofValue]
  have : fn.body.isNone = false := by cases hb : fn.body <;> simp_all
  constructor
  · rw [Sem.run_bind]
    simp only [Sem.run_pure, Result.andThen_ok, invoke, callFunc]
    rw [Sem.run_bind, run_program]
    simp only [Result.andThen_ok, h1, h2]
    simp [this]
  · rw [Sem.events_bind]
    simp only [Sem.run_pure, Sem.events_pure, Result.evThen_ok, invoke, callFunc]
    rw [Sem.events_bind, run_program]
    simp only [Result.evThen_ok, h1, h2, events_program]
    simp [this]

/-- an operation that enters a function -/
def Enters (C : Ctx) (o : Oper) (N : Nat) (T : Nat → AV) (f : FuncId) (xs : List AV) : Prop := ∀ (T' : Nat → AV), (∀ x ∈ o.op.operands, ev T' x = ev T x) → ∀ E (a : Act) w, TInv N E T' a w → Bodied C.P f →
  ∃ VS : Array Value, (∀ w₁, (execOp a.eval o).run C.P w₁ = .ok (.enter f VS) w₁ ∧ (execOp a.eval o).events C.P w₁ #[] = #[]) ∧ VS.toList.length = xs.length ∧ ∀ (k : Nat) (y : AV), xs[k]? = some y → RepA w E y (VS.toList.getD k undef)

theorem enters_value {x : Operand} {args : Array Operand} {ats : Array TypeId} (ho : o.op = .call { callee := .value x, args := args, argTypes := ats }) {f : FuncId} {fs cs : List AV} (hfn : fnOf (ev T x) = some (f, fs, cs)) : Enters C o N T f (fs ++ args.toList.map (ev T) ++ cs) := by
  intro T' g1 E a w ht hbod
  have mx : x ∈ o.op.operands := by simp [ho, Op.operands, Call.operands]
  have ma : ∀ y ∈ args, y ∈ o.op.operands := fun y hy => by simp [ho, Op.operands, Call.operands, hy]
  -- the arguments
  obtain ⟨FS, CS, ex, hvl, hvs⟩ : ∃ FS CS : Array Value, a.eval x = .func (.func f) FS CS ∧ (FS ++ args.map a.eval ++ CS).toList.length = (fs ++ args.toList.map (ev T) ++ cs).length ∧
      ∀ (k : Nat) (y : AV), (fs ++ args.toList.map (ev T) ++ cs)[k]? = some y → RepA w E y ((FS ++ args.map a.eval ++ CS).toList.getD k undef) := by
    have rx := rep_at ht (g1 x mx) rfl
    have mid : ∀ (k : Nat) (y : AV), (args.toList.map (ev T))[k]? = some y → RepA w E y ((args.map a.eval).toList.getD k undef) := fun k y hy => by
      simp only [List.getElem?_map, Option.map_eq_some_iff] at hy
      obtain ⟨z, hz, rfl⟩ := hy
      have hz' : args[k]? = some z := by simpa using hz
      have : (args.map a.eval).toList.getD k undef = a.eval z := by simp [List.getD, hz']
      rw [this]
      exact rep_at ht (g1 z (ma z (Array.mem_of_getElem? hz'))) rfl
    have glue : ∀ (FS CS : List Value), FS.length = fs.length → CS.length = cs.length → (∀ (k : Nat) (y : AV), fs[k]? = some y → RepA w E y (FS.getD k undef)) → (∀ (k : Nat) (y : AV), cs[k]? = some y → RepA w E y (CS.getD k undef)) →
        ∀ (k : Nat) (y : AV), (fs ++ args.toList.map (ev T) ++ cs)[k]? = some y → RepA w E y ((FS ++ (args.map a.eval).toList ++ CS).getD k undef) := fun FS CS l1 l2 r1 r2 k y hy => by
      simp only [List.getD]
      rw [List.getElem?_append] at hy
      rw [List.getElem?_append]
      simp only [List.length_append, List.length_map, Array.length_toList, Array.size_map, l1] at hy ⊢
      split at hy
      · rename_i hlt
        rw [if_pos hlt]
        rw [List.getElem?_append] at hy
        rw [List.getElem?_append, l1]
        split at hy
        · rename_i h1; rw [if_pos h1]; exact r1 k y hy
        · rename_i h1; rw [if_neg h1]; exact mid _ y hy
      · rename_i hlt
        rw [if_neg hlt]
        exact r2 _ y hy
    unfold fnOf at hfn
    split at hfn
    · rename_i f' A B hxe
      split at hfn
      · rename_i he
        simp only [Bool.and_eq_true, Array.isEmpty_iff] at he
        obtain ⟨rfl, rfl⟩ := he
        cases hfn
        rw [hxe] at rx
        refine ⟨#[], #[], rep_sc rx, by simp, ?_⟩
        have := glue [] [] rfl rfl (by simp) (by simp)
        simpa using this
      · cases hfn
    · rename_i f' fs' cs' hxe
      cases hfn
      rw [hxe] at rx
      obtain ⟨A, B, hv, hA, hB, hfA, hfB⟩ := rep_fn rx
      refine ⟨A, B, hv, by simp [hA, hB], ?_⟩
      have := glue A.toList B.toList (by simpa using hA) (by simpa using hB) (fun k y hy => by simpa [List.getD, Array.getD_eq_getD_getElem?] using hfA k y hy) (fun k y hy => by simpa [List.getD, Array.getD_eq_getD_getElem?] using hfB k y hy)
      simpa using this
    · cases hfn
  exact ⟨_, fun w₁ => run_enter ho ex hbod, hvl, hvs⟩

/-- a method of a type -/
def Meth (C : Ctx) (t : TypeId) (name : String) (f : FuncId) : Prop := ∀ (v : Value) (w : World), (method (C.P.types.size + Made.depth) t v name).run C.P w = .ok (f, v) w ∧ (method (C.P.types.size + Made.depth) t v name).events C.P w #[] = #[]
theorem meth_mk {t : TypeId} {name : String} {f : FuncId} {p : Bool} {d : TypeDesc} (hu : C.P.underlying t = some d) (hd : (match d, p with | .pointer _, true => true | .pointer _, false => false | _, p => !p) = true)
    (hi : (C.P.info? t).map (fun i => (i.methods.find? (·.name == name)).map fun m => (m.path.toList, m.func)) = some (some ([], some (f, p)))) : Meth C t name f := fun v w => by
  obtain ⟨i, e1, e2⟩ := Option.map_eq_some_iff.1 hi
  obtain ⟨m, e3, e4⟩ := Option.map_eq_some_iff.1 e2
  injection e4 with e4 e5
  rw [show C.P.types.size + Made.depth = (C.P.types.size + (Made.depth - 1)) + 1 from rfl]
  constructor <;> (cases d <;> cases p <;> simp at hd <;> simp [method, typeInfo, e1, e3, e4, e5, follow, receiverAt, run_underlying hu, Place.get])
def ifcOf : AV → Option (TypeId × AV)
  | .ifc t v => some (t, v)
  | .cv (.ifc t c) => some (t, .cv c)
  | _ => none
theorem enters_invoke {x : Operand} {name : String} {args : Array Operand} {ats : Array TypeId} (ho : o.op = .call { callee := .invoke x name, args := args, argTypes := ats }) {t : TypeId} {v : AV} (hx : ifcOf (ev T x) = some (t, v)) {f : FuncId} (hm : Meth C t name f) : Enters C o N T f (v :: args.toList.map (ev T)) := by
  intro T' g1 E a w ht hbod
  have mx : x ∈ o.op.operands := by simp [ho, Op.operands, Call.operands]
  have ma : ∀ y ∈ args, y ∈ o.op.operands := fun y hy => by simp [ho, Op.operands, Call.operands, hy]
  obtain ⟨u, eu, hu⟩ : ∃ u, a.eval x = .iface t u ∧ RepA w E v u := by
    have rx := rep_at ht (g1 x mx) rfl
    unfold ifcOf at hx
    split at hx
    · rename_i e; cases hx; rw [e] at rx; exact rep_ifc rx
    · rename_i e; cases hx; rw [e] at rx
      generalize a.eval x = z at rx
      cases rx with | cv _ _ h => cases h with | ifc _ _ v h => exact ⟨v, rfl, .cv _ _ h⟩
    · cases hx
  refine ⟨#[u] ++ args.map a.eval, ?_, by simp, fun k y hy => ?_⟩
  · intro w
    obtain ⟨fn, h1, h2, h3⟩ := hbod
    have hbn : fn.body.isNone = false := by cases hb : fn.body <;> simp_all
    rw [show execOp a.eval o = (do let d ← resolve a.eval { callee := .invoke x name, args := args, argTypes := ats } o.type; Go.invoke d.target d.args) by unfold execOp; rw [ho]]
    simp only [resolve, eu]
    have e0 : (#[Value.iface t u] ++ args.map a.eval)[0]? = some (.iface t u) := by rw [Array.getElem?_append_left Nat.zero_lt_one]; rfl
    have e1 : (#[Value.iface t u] ++ args.map a.eval).extract 1 (#[Value.iface t u] ++ args.map a.eval).size = args.map a.eval := by
      apply Array.ext'; simp [List.take_of_length_le]
    constructor
    · rw [Sem.run_bind]
      simp only [Sem.run_pure, Result.andThen_ok, Go.invoke]
      simp only [e0, e1, callMethod]
      rw [Sem.run_bind, run_program]
      simp only [Result.andThen_ok]
      rw [Sem.run_bind, (hm u w).1]
      simp only [Result.andThen_ok, callFunc]
      rw [Sem.run_bind, run_program]
      simp only [Result.andThen_ok, h1, h2]
      simp [hbn]
    · rw [Sem.events_bind]
      simp only [Sem.run_pure, Sem.events_pure, Result.evThen_ok, Go.invoke]
      simp only [e0, e1, callMethod]
      rw [Sem.events_bind, run_program]
      simp only [Result.evThen_ok, events_program]
      rw [Sem.events_bind, (hm u w).1]
      simp only [Result.evThen_ok, callFunc, (hm u w).2]
      rw [Sem.events_bind, run_program]
      simp only [Result.evThen_ok, events_program, h1, h2]
      simp [hbn]
  · cases k with
    | zero => simp only [List.getElem?_cons_zero, Option.some.injEq] at hy; subst hy; simpa [List.getD] using hu
    | succ k =>
      simp only [List.getElem?_cons_succ, List.getElem?_map, Option.map_eq_some_iff] at hy
      obtain ⟨z, hz, rfl⟩ := hy
      have hz' : args[k]? = some z := by simpa using hz
      have : (#[u] ++ args.map a.eval).toList.getD (k + 1) undef = a.eval z := by simp [List.getD, hz']
      rw [this]
      exact rep_at ht (g1 z (ma z (Array.mem_of_getElem? hz'))) rfl

set_option maxHeartbeats 2000000 in
theorem call_gen {nx : Nat} {K : Eff → Prop} {f : FuncId} {xs : List AV} (hent : Enters C o N T f xs)
    {args' : List AV} {Hin : List Block} {res : AV} {Hout : List (Nat × Option Block)} (S : Spec C f args' Hin res Hout) {bs : List Nat} {m : Nat} {drop : Bool}
    (hnd : decide bs.Nodup = true) {ys : List AV} {ns : List Nat} (hexp : ExpOkL bs H xs ys ns) (hle : LeL (fun i => bs[i]?) args' ys)
    (h : vPass bs H (fun i => bs[i]?) bs Hin fun ms => ck ((ns ++ ms).all (fun b => !bs.contains b) && (nmA (Hin.length + m) res && nmH (Hin.length + m) Hout)) <| (drop = true ∨ NoR res ∧ NoRH Hout) ∧
      K ⟨renA (mu bs Hin.length nx) res, wrs bs (ns ++ ms) Hin.length nx m drop Hout, List.range' nx m, bs ++ (ns ++ ms)⟩) : Does C o N T H nx K := by
  have hnd : bs.Nodup := by simpa using hnd
  obtain ⟨x1, x2, x3⟩ := hexp
  obtain ⟨ms, h, p1, p2, p3, p4⟩ := vPass_out h
  replace h := ck_out h
  obtain ⟨hck, hdr, hk⟩ := h
  simp only [Bool.and_eq_true, List.all_eq_true, Bool.not_eq_true', List.contains_eq_mem, decide_eq_false_iff_not] at hck
  obtain ⟨hNS, hnmA, hnmH⟩ := hck
  refine ⟨_, fun T' H' g1 g2 fn E a w x Kk ht hh hok hf hnext => ?_, by simp, hk⟩
  obtain ⟨VS, hop, hvl, hvs⟩ := hent T' g1 E a w ht S.bod
  have hlive : ∀ b ∈ bs, ∃ B, H' b = some B := fun b hb => by
    obtain ⟨B, hB⟩ := p3 b hb
    exact ⟨B, (g2 b (List.mem_append.2 (.inl hb))).trans hB⟩
  have hliveN : ∀ b ∈ ns ++ ms, ∃ B, H' b = some B := fun b hb => by
    have : ∃ B, H b = some B := (List.mem_append.1 hb).elim (x1 b) (p1 b)
    obtain ⟨B, hB⟩ := this
    exact ⟨B, (g2 b (List.mem_append.2 (.inr hb))).trans hB⟩
  have hbU : ∀ b ∈ bs, E.U b := fun b hb => (hlive b hb).elim fun B hB => (hh.un b B hB).1
  have hnew : ∀ b, (nx ≤ b ∧ b < nx + m) → ¬ E.U b := fun b hb => hf b (by simp only [List.mem_range']; exact ⟨b - nx, by omega, by omega⟩)
  have hbs_new : ∀ b ∈ bs, ¬ (nx ≤ b ∧ b < nx + m) := fun b hb hn => hnew b hn (hbU b hb)
  -- the callee's state
  let σ : Nat → Option Nat := fun i => bs[i]?
  let Ec : Emb := { (E.frz (ns ++ ms)).ren σ with fr := fun r => r < w.heap.size ∧ ∀ b ∈ bs, ¬ E.gh b → r ≠ E.blk b }
  have toEc : ∀ {y : AV} {v : Value}, RepA w ((E.frz (ns ++ ms)).ren σ) y v → RepA w Ec y v := fun hr => RepA.mono (E := (E.frz (ns ++ ms)).ren σ) (E' := Ec) (fun _ _ => rfl) (fun _ h => h) (fun _ h => ⟨h, rfl, rfl, .rfl⟩) hr
  have blkc : ∀ {i b}, bs[i]? = some b → Ec.blk i = E.blk b ∧ Ec.sz i = E.sz b ∧ (Ec.gh i ↔ E.gh b) := fun {i b} hb => by
    refine ⟨by simp [Ec, Emb.ren, σ, hb, Emb.frz], by simp [Ec, Emb.ren, σ, hb, Emb.frz], ⟨fun ⟨y, e, g⟩ => by simp only [σ] at e; rw [hb] at e; cases e; exact g, fun g => ⟨b, hb, g⟩⟩⟩
  have frE : ∀ r, E.fr r → Ec.fr r := fun r hr => ⟨hh.frlt r hr, fun b hb hg e => by
    obtain ⟨B, hB⟩ := hlive b hb
    exact (hh.un b B hB).2 hg (e ▸ hr)⟩
  have prEc : ∀ r, Ec.pr r → Ec.fr r := fun r hr => by
    rcases hr with hr | ⟨c, hc, hg, e⟩
    · exact frE r (hh.prfr r hr)
    · obtain ⟨X, hX⟩ := hliveN c hc
      refine ⟨e ▸ hh.lt hX hg, fun b hb hgb e2 => ?_⟩
      obtain ⟨B, hB⟩ := hlive b hb
      have := hh.inj c b X B hX hB hg hgb (e ▸ e2)
      exact hNS c hc (this ▸ hb)
  have hhc : HInv Ec (hin Hin) w := by
    refine ⟨fun i B hB => ?_, fun i B hB => ?_, fun i j B D hB hD gi gj e => ?_, prEc, fun r hr => hr.1⟩
    · have hi : i < bs.length := by rw [p2]; exact (List.getElem?_eq_some_iff.1 hB).1
      obtain ⟨e1, e2, e3⟩ := blkc (List.getElem?_eq_getElem hi)
      exact p4 H' (fun b hb => g2 b (List.mem_append.2 (.inr (List.mem_append.2 (.inr hb))))) (fun b hb => g2 b (List.mem_append.2 (.inl hb))) E w hh (ns ++ ms) (fun b hb => List.mem_append.2 (.inr hb)) i bs[i] B (List.getElem?_eq_getElem hi) hB i Ec (fun y v => toEc) (fun _ h => h) e1 e2 e3
    · have hi : i < bs.length := by rw [p2]; exact (List.getElem?_eq_some_iff.1 hB).1
      obtain ⟨e1, e2, e3⟩ := blkc (List.getElem?_eq_getElem hi)
      exact ⟨⟨bs[i], List.getElem?_eq_getElem hi, hbU _ (List.getElem_mem hi)⟩, fun hg hfr => hfr.2 bs[i] (List.getElem_mem hi) (fun g => hg (e3.2 g)) e1⟩
    · have hi : i < bs.length := by rw [p2]; exact (List.getElem?_eq_some_iff.1 hB).1
      have hj : j < bs.length := by rw [p2]; exact (List.getElem?_eq_some_iff.1 hD).1
      obtain ⟨e1, e2, e3⟩ := blkc (List.getElem?_eq_getElem hi)
      obtain ⟨f1, f2, f3⟩ := blkc (List.getElem?_eq_getElem hj)
      obtain ⟨X, hX⟩ := hlive bs[i] (List.getElem_mem hi)
      obtain ⟨Y, hY⟩ := hlive bs[j] (List.getElem_mem hj)
      have := hh.inj _ _ X Y hX hY (fun g => gi (e3.2 g)) (fun g => gj (f3.2 g)) (by rw [← e1, ← f1]; exact e)
      exact nodup_inj hnd this
  have hUc : ∀ b, Ec.U b ↔ b < Hin.length := fun b => by
    constructor
    · rintro ⟨y, e, _⟩; rw [← p2]; exact (List.getElem?_eq_some_iff.1 e).1
    · intro hb
      have hi : b < bs.length := by omega
      exact ⟨bs[b], List.getElem?_eq_getElem hi, hbU _ (List.getElem_mem hi)⟩
  obtain ⟨le1, le2⟩ := LeL.rep hle (w := w) (E := E.frz (ns ++ ms))
  have hextc : Ext (fun _ => False) E w Ec w := ⟨fun _ _ => rfl, frE, fun _ h => .inl h, Nat.le_refl _, fun _ h => h.elim, fun b hb hg => by
      obtain ⟨y, e, hy⟩ := hb
      obtain ⟨e1, _, e3⟩ := blkc e
      exact .inr ⟨y, hy, fun g => hg (e3.2 g), e1⟩, fun r hr => by
      rcases hr with hr | ⟨c, hc, hg, e⟩
      · exact .inl hr
      · obtain ⟨X, hX⟩ := hliveN c hc
        exact .inr (.inr ⟨c, (hh.un c X hX).1, hg, e⟩), ⟨rfl, rfl, rfl⟩⟩
  have hrun := S.run Ec w x VS.toList (by rw [hvl, ← x2, ← le1]) (fun k y hy => by
    obtain ⟨z, hz, hzr⟩ := le2 k y hy
    obtain ⟨q, hq, hqr⟩ := x3 H' (fun b hb => g2 b (List.mem_append.2 (.inr (List.mem_append.2 (.inl hb))))) E w hh k z hz
    exact toEc (hzr _ ((hqr _ (hvs k q hq)).frz_mono fun b hb => List.mem_append.2 (.inl hb)))) hhc hUc (C.sound.okExt hok hextc)
  rw [Array.toArray_toList] at hrun
  refine C.sound.opCall (fun w₁ hrel => ⟨(hop w₁).1, ?_⟩) hrun fun v w' x' hpost => ?_
  · obtain ⟨hheap, hio⟩ := C.sound.rel hrel
    exact C.sound.evSub (C.sound.okEv (es := #[]) (C.sound.okExt hok (hh.same hheap hio).2) (w' := w₁) (.nil rfl)) fun e he => by have := seen_sub e he; rwa [(hop w₁).2] at this
  obtain ⟨E1, hr, hh1, hx, hok1, hle1⟩ := hpost
  -- the caller's state behind the call
  let isN : Nat → Prop := fun b => nx ≤ b ∧ b < nx + m
  let μ := mu bs Hin.length nx
  classical
  let E' : Emb := { blk := fun b => if isN b then E1.blk (b - nx + Hin.length) else E.blk b, sz := fun b => if isN b then E1.sz (b - nx + Hin.length) else E.sz b, U := fun b => E.U b ∨ isN b, gh := fun b => if isN b then (E1.gh (b - nx + Hin.length) ∨ ¬ E1.U (b - nx + Hin.length)) else E.gh b, pr := fun r => E.pr r ∨ (drop = true ∧ E1.pr r), fr := fun r => E.fr r ∨ (drop = true ∧ E1.pr r) }
  have oldn : ∀ b, E.U b → E'.U b ∧ E'.blk b = E.blk b ∧ E'.sz b = E.sz b ∧ (E'.gh b ↔ E.gh b) := fun b hb => by
    have : ¬ isN b := fun h => hnew b h hb
    exact ⟨.inl hb, by simp [E', this], by simp [E', this], by simp [E', this]⟩
  have newn : ∀ c, Hin.length ≤ c → c < Hin.length + m → E1.U c → E'.U (μ c) ∧ E'.blk (μ c) = E1.blk c ∧ E'.sz (μ c) = E1.sz c ∧ (E'.gh (μ c) ↔ E1.gh c) := fun c h1 h2 hU => by
    have e : μ c = nx + (c - Hin.length) := by simp only [μ, mu]; rw [if_neg (by omega)]
    have hn : isN (nx + (c - Hin.length)) := ⟨by omega, by omega⟩
    rw [e]
    have e2 : nx + (c - Hin.length) - nx + Hin.length = c := by omega
    exact ⟨.inr hn, by simp only [E', hn, if_true, e2], by simp only [E', hn, if_true, e2], by simp only [E', hn, if_true, e2, hU, not_true_eq_false, or_false]⟩
  have pas : ∀ c, c < Hin.length → ∃ b, bs[c]? = some b ∧ μ c = b ∧ b ∈ bs ∧ E1.blk c = E.blk b ∧ E1.sz c = E.sz b ∧ (E1.gh c ↔ E.gh b) := fun c hc => by
    have hi : c < bs.length := by omega
    obtain ⟨e1, e2, e3⟩ := blkc (List.getElem?_eq_getElem hi)
    obtain ⟨f1, f2, f3⟩ := hx.nm c hc
    exact ⟨bs[c], List.getElem?_eq_getElem hi, by simp only [μ, mu]; rw [if_pos hc]; simp [List.getD, hi], List.getElem_mem hi, f1.trans e1, f2.trans e2, f3.trans e3⟩
  have turn : Turn w' (Hin.length + m) μ E1 E' := ⟨fun c hc hU => by
    by_cases h1 : c < Hin.length
    · obtain ⟨b, hb, e, hbm, e1, e2, e3⟩ := pas c h1
      obtain ⟨o1, o2, o3, o4⟩ := oldn b (hbU b hbm)
      rw [e]
      exact ⟨o1, o2.trans e1.symm, o3.trans e2.symm, o4.trans e3.symm⟩
    · exact newn c (by omega) hc hU⟩
  have hprd : ∀ {Z : Prop}, (drop = true ∨ Z) → (∀ r, E1.pr r → E'.pr r) ∨ Z := fun h => h.imp (fun hd r hr => .inr ⟨hd, hr⟩) id
  have live : ∀ b B, updH H' (wrs bs (ns ++ ms) Hin.length nx m drop Hout) b = some B → (∃ c B0, c < Hin.length + m ∧ μ c = b ∧ geth Hout c = some B0 ∧ B = renB μ B0) ∨ (H' b = some B ∧ b ∉ bs ∧ ¬ isN b ∧ (drop = true → b ∉ ns ++ ms)) :=
    fun b B hB => wrs_out p2 hnd hbs_new hB
  -- a block that was not handed over stays
  have apart : ∀ b B, H' b = some B → ¬ E.gh b → b ∉ bs → Ec.fr (E.blk b) := fun b B hB hg hb => ⟨hh.lt hB hg, fun c hc hgc e => by
    obtain ⟨D, hD⟩ := hlive c hc
    exact hb (hh.inj b c B D hB hD hg hgc e ▸ hc)⟩
  have E1blk : ∀ c, E1.U c → ¬ E1.gh c → ∀ b B, H' b = some B → ¬ E.gh b → b ∉ bs → E1.blk c ≠ E.blk b := fun c hU hg b B hB hgb hb e => by
    rcases hx.un c hU hg with h1 | ⟨d, h1, h2, h3⟩
    · have := hh.lt hB hgb; omega
    · obtain ⟨y, hy, _⟩ := h1
      obtain ⟨e1, _, e3⟩ := blkc hy
      have hym : y ∈ bs := List.mem_of_getElem? hy
      obtain ⟨D, hD⟩ := hlive y hym
      have := hh.inj b y B D hB hD hgb (fun g => h2 (e3.2 g)) (by rw [← e, h3, e1])
      exact hb (this ▸ hym)
  have hH : HInv E' (updH H' (wrs bs (ns ++ ms) Hin.length nx m drop Hout)) w' := by
    refine ⟨fun b B hB => ?_, fun b B hB => ?_, fun b d B D hB hD gb gd e => ?_, fun r hr => ?_, fun r hr => ?_⟩
    · rcases live b B hB with ⟨c, B0, hc, rfl, hB0, rfl⟩ | ⟨hB', hb, hn, _⟩
      · exact renB_rep turn hc (hh1.un c B0 hB0).1 (nmH_out hnmH hB0).2 (hprd (hdr.imp id fun h => NoRH.out h.2 hB0)) (hh1.hp c B0 hB0)
      · exact (hh.hp b B hB').mono (E' := E') (fun r hr => hx.keep r (frE r (hh.prfr r hr))) (fun _ h => .inl h) oldn (hh.un b B hB').1 (fun hg => hx.keep _ (apart b B hB' hg hb))
    · rcases live b B hB with ⟨c, B0, hc, rfl, hB0, rfl⟩ | ⟨hB', hb, hn, hd⟩
      · obtain ⟨u, f⟩ := hh1.un c B0 hB0
        obtain ⟨t1, t2, t3, t4⟩ := turn.nm c hc u
        refine ⟨t1, fun hg hfr => ?_⟩
        rw [t2] at hfr
        have := f fun g => hg (t4.2 g)
        rcases hfr with hfr | ⟨_, hfr⟩
        · exact this (hx.fr _ (frE _ hfr))
        · exact this (hh1.prfr _ hfr)
      · obtain ⟨u, f⟩ := hh.un b B hB'
        obtain ⟨t1, t2, t3, t4⟩ := oldn b u
        refine ⟨t1, fun hg hfr => ?_⟩
        rw [t2] at hfr
        have hg' : ¬ E.gh b := fun g => hg (t4.2 g)
        rcases hfr with hfr | ⟨hdt, hfr⟩
        · exact f hg' hfr
        · rcases hx.pn _ hfr with (h1 | ⟨c, hc, hgc, e⟩) | h1 | ⟨c, ⟨y, hy, _⟩, hgc, e⟩
          · exact f hg' (hh.prfr _ h1)
          · obtain ⟨X, hX⟩ := hliveN c hc
            exact hd hdt (hh.inj b c B X hB' hX hg' hgc e ▸ hc)
          · have := hh.lt hB' hg'; omega
          · obtain ⟨e1, _, e3⟩ := blkc hy
            have hym : y ∈ bs := List.mem_of_getElem? hy
            obtain ⟨D, hD⟩ := hlive y hym
            exact hb (hh.inj b y B D hB' hD hg' (fun g => hgc (e3.2 g)) (by rw [e, e1]) ▸ hym)
    · rcases live b B hB with ⟨c, B0, hc, rfl, hB0, rfl⟩ | ⟨hB', hb, hn, hdb⟩ <;> rcases live d D hD with ⟨c', D0, hc', rfl, hD0, rfl⟩ | ⟨hD', hd, hn', hdd⟩
      · obtain ⟨t1, t2, t3, t4⟩ := turn.nm c hc (hh1.un c B0 hB0).1
        obtain ⟨s1, s2, s3, s4⟩ := turn.nm c' hc' (hh1.un c' D0 hD0).1
        rw [hh1.inj c c' B0 D0 hB0 hD0 (fun g => gb (t4.2 g)) (fun g => gd (s4.2 g)) (by rw [← t2, ← s2]; exact e)]
      · obtain ⟨t1, t2, t3, t4⟩ := turn.nm c hc (hh1.un c B0 hB0).1
        obtain ⟨s1, s2, s3, s4⟩ := oldn d (hh.un d D hD').1
        exact absurd (by rw [← t2, ← s2]; exact e) (E1blk c (hh1.un c B0 hB0).1 (fun g => gb (t4.2 g)) d D hD' (fun g => gd (s4.2 g)) hd)
      · obtain ⟨t1, t2, t3, t4⟩ := turn.nm c' hc' (hh1.un c' D0 hD0).1
        obtain ⟨s1, s2, s3, s4⟩ := oldn b (hh.un b B hB').1
        exact absurd (by rw [← t2, ← s2]; exact e.symm) (E1blk c' (hh1.un c' D0 hD0).1 (fun g => gd (t4.2 g)) b B hB' (fun g => gb (s4.2 g)) hb)
      · obtain ⟨s1, s2, s3, s4⟩ := oldn b (hh.un b B hB').1
        obtain ⟨t1, t2, t3, t4⟩ := oldn d (hh.un d D hD').1
        exact hh.inj b d B D hB' hD' (fun g => gb (s4.2 g)) (fun g => gd (t4.2 g)) (by rw [← s2, ← t2]; exact e)
    · exact hr.imp (hh.prfr r) id
    · rcases hr with hr | ⟨_, hr⟩
      · exact Nat.lt_of_lt_of_le (hh.frlt r hr) hx.sz
      · exact hh1.frlt r (hh1.prfr r hr)
  refine hnext v E' w' x' (renA_rep turn hnmA (hprd (hdr.imp id fun h => h.1)) hr) hH (C.sound.okJoin hok hok1 hle1 hx.sz (fun r hr => hh.frlt r (hh.prfr r hr)) (fun r hr => hr.imp id fun h => h.2) (fun b hb hg => ?_) (fun _ h => .inl h) fun _ h => .inl h) hle1 ⟨fun r hr => hx.keep r (frE r hr), fun _ h => .inl h, fun _ h => .inl h, hx.sz, fun b hb => (oldn b hb).2, fun b hb hg => ?_, fun r hr => ?_, hx.io⟩ (fun b => ?_)
  · by_cases hn : isN b
    · simp only [E', hn, if_true] at hg ⊢
      exact .inr ⟨_, Classical.byContradiction fun h => hg (.inr h), fun g => hg (.inl g), rfl⟩
    · simp only [E', hn, if_false] at hg ⊢
      exact .inl ⟨b, hb.resolve_right hn, hg, rfl⟩
  · by_cases hn : isN b
    · simp only [E', hn, if_true] at hg ⊢
      have hU1 : E1.U (b - nx + Hin.length) := Classical.byContradiction fun h => hg (.inr h)
      rcases hx.un _ hU1 (fun g => hg (.inl g)) with h1 | ⟨d, ⟨y, hy, _⟩, h2, h3⟩
      · exact .inl h1
      · obtain ⟨e1, _, e3⟩ := blkc hy
        exact .inr ⟨y, hbU y (List.mem_of_getElem? hy), fun g => h2 (e3.2 g), h3.trans e1⟩
    · simp only [E', hn, if_false] at hg ⊢
      exact .inr ⟨b, hb.resolve_right hn, hg, rfl⟩
  · rcases hr with hr | ⟨_, hr⟩
    · exact .inl hr
    · rcases hx.pn r hr with (h1 | ⟨c, hc, hgc, e⟩) | h1 | ⟨c, ⟨y, hy, _⟩, hgc, e⟩
      · exact .inl h1
      · obtain ⟨X, hX⟩ := hliveN c hc
        exact .inr (.inr ⟨c, (hh.un c X hX).1, hgc, e⟩)
      · exact .inr (.inl h1)
      · obtain ⟨e1, _, e3⟩ := blkc hy
        exact .inr (.inr ⟨y, hbU y (List.mem_of_getElem? hy), fun g => hgc (e3.2 g), e.trans e1⟩)
  · simp only [E', isN, List.mem_range']
    constructor
    · rintro (h | h)
      · exact .inl h
      · exact .inr ⟨b - nx, by omega, by omega⟩
    · rintro (h | ⟨i, h1, h2⟩)
      · exact .inl h
      · exact .inr (by omega)

/-- a call whose arguments are told as they are handed over: the contract is still to be named -/
@[irreducible] def CallW (C : Ctx) (f : FuncId) (bs : List Nat) (ys : List AV) (ns : List Nat) (H : Nat → Option Block) (nx : Nat) (K : Eff → Prop) : Prop :=
  ∃ (args' : List AV) (Hin : List Block) (res : AV) (Hout : List (Nat × Option Block)) (m : Nat) (drop : Bool), Spec C f args' Hin res Hout ∧ LeL (fun i => bs[i]?) args' ys ∧ vPass bs H (fun i => bs[i]?) bs Hin fun ms =>
    ck ((ns ++ ms).all (fun b => !bs.contains b) && (nmA (Hin.length + m) res && nmH (Hin.length + m) Hout)) <| (drop = true ∨ NoR res ∧ NoRH Hout) ∧
    K ⟨renA (mu bs Hin.length nx) res, wrs bs (ns ++ ms) Hin.length nx m drop Hout, List.range' nx m, bs ++ (ns ++ ms)⟩
theorem call_go {nx : Nat} {K : Eff → Prop} {x : Operand} {args : Array Operand} {ats : Array TypeId} (ho : o.op = .call { callee := .value x, args := args, argTypes := ats }) {f : FuncId} {fs cs : List AV} (hfn : fnOf (ev T x) = some (f, fs, cs)) (bs : List Nat)
    (h : ck (decide bs.Nodup) <| vExpL bs H (fs ++ args.toList.map (ev T) ++ cs) fun ys ns => CallW C f bs ys ns H nx K) : CallVC C o N T H nx K := by
  unfold CallVC
  -- the contract is the one that was named
  obtain ⟨hnd, h⟩ := ck_out h
  obtain ⟨ys, ns, h, h2, h3⟩ := vExpL_out h
  unfold CallW at h
  obtain ⟨args', Hin, res, Hout, m, drop, S, hle, h⟩ := h
  exact call_gen (enters_value ho hfn) S hnd h3 hle h
/-- a method's call -/
theorem call_inv {nx : Nat} {K : Eff → Prop} {x : Operand} {name : String} {args : Array Operand} {ats : Array TypeId} (ho : o.op = .call { callee := .invoke x name, args := args, argTypes := ats }) {t : TypeId} {v : AV} (hx : ifcOf (ev T x) = some (t, v)) {f : FuncId} (hm : Meth C t name f) (bs : List Nat)
    (h : ck (decide bs.Nodup) <| vExpL bs H (v :: args.toList.map (ev T)) fun ys ns => CallW C f bs ys ns H nx K) : CallVC C o N T H nx K := by
  unfold CallVC
  obtain ⟨hnd, h⟩ := ck_out h
  obtain ⟨ys, ns, h, h2, h3⟩ := vExpL_out h
  unfold CallW at h
  obtain ⟨args', Hin, res, Hout, m, drop, S, hle, h⟩ := h
  exact call_gen (enters_invoke ho hx hm) S hnd h3 hle h
theorem callW {f : FuncId} {bs : List Nat} {ys : List AV} {ns : List Nat} {nx : Nat} {K : Eff → Prop} {args' : List AV} {Hin : List Block} {res : AV} {Hout : List (Nat × Option Block)} (S : Spec C f args' Hin res Hout) (m : Nat) (drop : Bool) (hle : LeL (fun i => bs[i]?) args' ys)
    (h : vPass bs H (fun i => bs[i]?) bs Hin fun ms => ck ((ns ++ ms).all (fun b => !bs.contains b) && (nmA (Hin.length + m) res && nmH (Hin.length + m) Hout)) <| (drop = true ∨ NoR res ∧ NoRH Hout) ∧
      K ⟨renA (mu bs Hin.length nx) res, wrs bs (ns ++ ms) Hin.length nx m drop Hout, List.range' nx m, bs ++ (ns ++ ms)⟩) : CallW C f bs ys ns H nx K := by
  unfold CallW; exact ⟨args', Hin, res, Hout, m, drop, S, hle, h⟩
theorem LeC.self : ∀ c, LeC c c
  | .sc _ => rfl
  | .ro .. => ⟨rfl, rfl, .inr rfl⟩
  | .rp _ => rfl
  | .ifc .. => rfl
mutual
theorem LeA.self {ρ : Nat → Option Nat} : ∀ {x : AV}, nmA 0 x = true → LeA ρ x x
  | .any, _ => by simp [LeA]
  | .cv c, _ => by simp only [LeA]; exact LeC.self c
  | .ptr .., h => by simp [nmA] at h
  | .own .., h => by simp [nmA] at h
  | .mp .., h => by simp [nmA] at h
  | .ch .., h => by simp [nmA] at h
  | .agg cs, h => by simp only [LeA]; exact LeL.self h
  | .tup cs, h => by simp only [LeA]; exact LeL.self h
  | .ifc t v, h => by simp only [LeA]; exact ⟨trivial, LeA.self h⟩
  | .fn f fs cs, h => by simp only [nmA, Bool.and_eq_true] at h; simp only [LeA]; exact ⟨trivial, LeL.self h.1, LeL.self h.2⟩
theorem LeL.self {ρ : Nat → Option Nat} : ∀ {l : List AV}, nmL 0 l = true → LeL ρ l l
  | [], _ => by simp [LeL]
  | x :: l, h => by simp only [nmL, Bool.and_eq_true] at h; simp only [LeL]; exact ⟨LeA.self h.1, LeL.self h.2⟩
end
/-- the plainest call: closed arguments, no block comes or goes -/
theorem callW0 {f : FuncId} {ys : List AV} {ns : List Nat} {nx : Nat} {K : Eff → Prop} {res : AV} (S : Spec C f ys [] res []) (hc : nmL 0 ys = true) (hn : NoR res)
    (h : ck (nmA 0 res) <| K ⟨renA (mu [] 0 nx) res, [], [], ns⟩) : CallW C f [] ys ns H nx K := by
  obtain ⟨h1, h2⟩ := ck_out h
  refine callW S 0 false (LeL.self hc) ?_
  simp only [vPass]
  refine ck_in ⟨by simp [h1, nmH], .inr ⟨hn, trivial⟩, ?_⟩
  simpa [wrs] using h2
/-- less is told of the arguments than is there -/
theorem callWl {f : FuncId} {ys : List AV} {ns : List Nat} {nx : Nat} {K : Eff → Prop} {args' : List AV} {res : AV} (S : Spec C f args' [] res []) (hn : NoR res) (hle : LeL (fun i => ([] : List Nat)[i]?) args' ys)
    (h : ck (nmA 0 res) <| K ⟨renA (mu [] 0 nx) res, [], [], ns⟩) : CallW C f [] ys ns H nx K := by
  obtain ⟨h1, h2⟩ := ck_out h
  refine callW S 0 false hle ?_
  simp only [vPass]
  refine ck_in ⟨by simp [h1, nmH], .inr ⟨hn, trivial⟩, ?_⟩
  simpa [wrs] using h2
/-- blocks are handed over, none comes -/
theorem callWp {bs : List Nat} {f : FuncId} {ys : List AV} {ns : List Nat} {nx : Nat} {K : Eff → Prop} {args' : List AV} {Hin : List Block} {res : AV} {Hout : List (Nat × Option Block)} (S : Spec C f args' Hin res Hout) (hle : LeL (fun i => bs[i]?) args' ys)
    (h : vPass bs H (fun i => bs[i]?) bs Hin fun ms => ck ((ns ++ ms).all (fun b => !bs.contains b) && (nmA (Hin.length + 0) res && nmH (Hin.length + 0) Hout)) <| K ⟨renA (mu bs Hin.length nx) res, wrs bs (ns ++ ms) Hin.length nx 0 true Hout, [], bs ++ (ns ++ ms)⟩) : CallW C f bs ys ns H nx K := by
  refine callW S 0 true hle ?_
  simpa using h
/-- arguments without names; m blocks come, and what was handed over is gone -/
theorem callWm {f : FuncId} {ys : List AV} {ns : List Nat} {nx : Nat} {K : Eff → Prop} {res : AV} {Hout : List (Nat × Option Block)} (S : Spec C f ys [] res Hout) (m : Nat) (hc : nmL 0 ys = true)
    (h : ck (nmA m res && nmH m Hout) <| K ⟨renA (mu [] 0 nx) res, wrs [] ns 0 nx m true Hout, List.range' nx m, ns⟩) : CallW C f [] ys ns H nx K := by
  obtain ⟨h1, h2⟩ := ck_out h
  refine callW S m true (LeL.self hc) ?_
  simp only [vPass, List.length_nil, Nat.zero_add, List.append_nil, List.nil_append]
  refine ck_in ⟨by simpa using h1, .inl trivial, ?_⟩
  simpa using h2
end
end Go.Proofs.YtdjoodbidcncaaaGreatDoor.AW

/- Maps with int keys. -/
namespace Go.Proofs.YtdjoodbidcncaaaGreatDoor.AW
open Go

def putM : List (Int × List CV) → Int → List CV → List (Int × List CV)
  | [], z, cs => [(z, cs)]
  | (a, y) :: l, z, cs => if a = z then (z, cs) :: l else (a, y) :: putM l z cs
def idxM : List (Int × List CV) → Int → Option Nat
  | [], _ => none
  | (a, _) :: l, z => if a = z then some 0 else (idxM l z).map (· + 1)
def getM : List (Int × List CV) → Int → Option (List CV)
  | [], _ => none
  | (a, y) :: l, z => if a = z then some y else getM l z
theorem putM_none {z : Int} {cs : List CV} : ∀ {es : List (Int × List CV)}, idxM es z = none → putM es z cs = es ++ [(z, cs)]
  | [], _ => rfl
  | (a, y) :: l, h => by
    simp only [idxM] at h
    by_cases e : a = z
    · simp [e] at h
    · rw [if_neg e] at h
      simp only [putM, if_neg e, List.cons_append]
      rw [putM_none (by simpa using h)]
theorem putM_some {z : Int} {cs : List CV} : ∀ {es : List (Int × List CV)} {j : Nat}, idxM es z = some j → (putM es z cs).length = es.length ∧ j < es.length ∧ ∀ k, (putM es z cs)[k]? = if k = j then some (z, cs) else es[k]?
  | [], j, h => by simp [idxM] at h
  | (a, y) :: l, j, h => by
    simp only [idxM] at h
    by_cases e : a = z
    · simp only [e, if_true, Option.some.injEq] at h
      subst h
      simp only [putM, e, if_true]
      refine ⟨by simp, by simp, fun k => ?_⟩
      cases k <;> simp
    · rw [if_neg e] at h
      obtain ⟨i, hi, rfl⟩ := Option.map_eq_some_iff.1 h
      obtain ⟨h1, h2, h3⟩ := putM_some (cs := cs) hi
      simp only [putM, if_neg e]
      refine ⟨by simp [h1], by simp; omega, fun k => ?_⟩
      cases k with
      | zero => simp
      | succ k => simpa using h3 k
theorem getM_idx {z : Int} : ∀ {es : List (Int × List CV)}, (idxM es z = none ∧ getM es z = none) ∨ ∃ j cs, idxM es z = some j ∧ getM es z = some cs ∧ es[j]? = some (z, cs)
  | [] => .inl ⟨rfl, rfl⟩
  | (a, y) :: l => by
    simp only [idxM, getM]
    by_cases e : a = z
    · subst e; exact .inr ⟨0, y, by simp, by simp, by simp⟩
    · rw [if_neg e, if_neg e]
      rcases getM_idx (z := z) (es := l) with ⟨h1, h2⟩ | ⟨j, cs, h1, h2, h3⟩
      · exact .inl ⟨by simp [h1], h2⟩
      · exact .inr ⟨j + 1, cs, by simp [h1], h2, by simpa using h3⟩

/-- the map in the heap is the one that is told -/
def MapIs (w : World) (pr : Nat → Prop) (es : List (Int × List CV)) (ents : Array MapEntry) : Prop := ents.size = es.length ∧ ∀ (k : Nat) (z : Int) (x : List CV), es[k]? = some (z, x) → ∃ e : MapEntry, ents[k]? = some e ∧ e.key = .int .i64 z ∧ RepM w pr x e.val
theorem findNow_map {z : Int} {pr : Nat → Prop} {w : World} : ∀ {es : List (Int × List CV)} {ents : List MapEntry} (i : Nat), MapIs w pr es ents.toArray →
    (idxM es z = none ∧ Instr.findNow (.int .i64) (.int .i64 z) ents i = some none) ∨ ∃ j e cs, idxM es z = some j ∧ ents[j]? = some e ∧ es[j]? = some (z, cs) ∧ e.key = .int .i64 z ∧ RepM w pr cs e.val ∧ Instr.findNow (.int .i64) (.int .i64 z) ents i = some (some (i + j, e.val))
  | [], ents, i, h => by
    have : ents = [] := by have := h.1; simpa using this
    subst this
    exact .inl ⟨rfl, rfl⟩
  | (a, y) :: es, ents, i, h => by
    cases ents with
    | nil => have := h.1; simp at this
    | cons e ents =>
      obtain ⟨e', h1, h2, h3⟩ := h.2 0 a y rfl
      simp only [List.getElem?_toArray, List.getElem?_cons_zero, Option.some.injEq] at h1
      subst h1
      have ht : MapIs w pr es ents.toArray := ⟨by simpa using h.1, fun k z x hk => by simpa using h.2 (k + 1) z x (by simpa using hk)⟩
      simp only [idxM, Instr.findNow, h2, Instr.sameNow, if_true]
      by_cases ea : a = z
      · subst ea
        refine .inr ⟨0, e, y, by simp, by simp, by simp, h2, h3, by simp⟩
      · have eb : (z == a) = false := by simpa using fun h => ea h.symm
        rw [if_neg ea, eb]
        simp only
        rcases findNow_map (z := z) (i + 1) ht with ⟨g1, g2⟩ | ⟨j, e2, cs, g1, g2, g3, g4, g5, g6⟩
        · exact .inl ⟨by simp [g1], g2⟩
        · exact .inr ⟨j + 1, e2, cs, by simp [g1], by simpa using g2, by simpa using g3, g4, g5, by rw [g6]; congr 3; omega⟩

/-! what the operations do -/
section
variable {P : Program} {w : World} {r clock : Nat} {ents : Array MapEntry}
theorem run_getMap (h : w.heap[r]? = some (.map ents clock)) : (getObj r).run P w = .ok (.map ents clock) w := by simp [getObj, Sem.run, h]
theorem ev_getMap (h : w.heap[r]? = some (.map ents clock)) : (getObj r).events P w #[] = #[⟨.obj r, false, false⟩] := by simp [getObj, Sem.events, Sem.runT, h, Obj.isChan, -Sem.runT_eq]
theorem run_setMap (o : Obj) (h : w.heap[r]? = some (.map ents clock)) : (setObj r o).run P w = .ok () { w with heap := w.heap.setIfInBounds r o } := by simp [setObj, Sem.run, h]
theorem ev_setMap {e' : Array MapEntry} {c' : Nat} (h : w.heap[r]? = some (.map ents clock)) : (setObj r (.map e' c')).events P w #[] = #[⟨.obj r, true, false⟩] := by simp [setObj, Sem.events, Sem.runT, h, Obj.isChan, -Sem.runT_eq]
theorem run_checkKey {b : Bool} {kt : TypeId} (hk : P.underlying kt = some (.int .i64)) (z : Int) : (Instr.checkKey b 10000 kt (.int .i64 z)).run P w = .ok () w ∧ (Instr.checkKey b 10000 kt (.int .i64 z)).events P w #[] = #[] := by
  rw [show (10000 : Nat) = 9999 + 1 from rfl]
  unfold Instr.checkKey
  constructor
  · rw [Sem.run_bind, run_underlying hk]; rfl
  · rw [Sem.events_bind, run_underlying hk, events_underlying]; rfl
theorem run_findKey {kt : TypeId} {k : Value} {es : List MapEntry} {x : Option (Nat × Value)} (hk : P.underlying kt = some (.int .i64)) (h : Instr.findNow (.int .i64) k es 0 = some x) : (Instr.findKey kt k es).run P w = .ok x w ∧ (Instr.findKey kt k es).events P w #[] = #[] := by
  simp only [Instr.findKey, Sem.run_bind, Sem.events_bind, run_underlying hk, events_underlying, Result.andThen_ok, Result.evThen_ok, h]
  simp
theorem run_keyStays {z : Int} : (Instr.keyThatStays (.int .i64 z) (.int .i64 z)).run P w = .ok (.int .i64 z) w ∧ (Instr.keyThatStays (.int .i64 z) (.int .i64 z)).events P w #[] = #[] := by
  have : Instr.sameBits 10000 (.int .i64 z) (.int .i64 z) = true := by rw [show (10000 : Nat) = 9999 + 1 from rfl]; simp [Instr.sameBits]
  simp [Instr.keyThatStays, this]
end

/-- a value as cells -/
def closeAll : List AV → Option (List CV)
  | [] => some []
  | .cv c :: l => (closeAll l).map (c :: ·)
  | _ => none
def mvOf : AV → Option (List CV)
  | .cv c => some [c]
  | .agg [_] => none
  | .agg cs => closeAll cs
  | _ => none
def avOf : List CV → AV
  | [c] => .cv c
  | cs => .agg (cs.map .cv)
theorem closeAll_get : ∀ {l : List AV} {cs : List CV}, closeAll l = some cs → l = cs.map .cv
  | [], cs, h => by simp only [closeAll, Option.some.injEq] at h; subst h; rfl
  | .cv c :: l, cs, h => by
    simp only [closeAll] at h
    obtain ⟨r, h1, rfl⟩ := Option.map_eq_some_iff.1 h
    rw [closeAll_get h1]; rfl
  | .any :: _, _, h | .ptr .. :: _, _, h | .own .. :: _, _, h | .agg _ :: _, _, h | .tup _ :: _, _, h | .ifc .. :: _, _, h | .fn .. :: _, _, h | .mp _ :: _, _, h | .ch _ :: _, _, h => by simp [closeAll] at h
theorem mvOf_rep {w : World} {E : Emb} {x : AV} {v : Value} {cs : List CV} (h : RepA w E x v) (hx : mvOf x = some cs) : RepM w E.pr cs v := by
  unfold mvOf at hx
  split at hx
  · simp only [Option.some.injEq] at hx; subst hx
    cases h with | cv _ _ h => exact h
  · cases hx
  · rename_i l hne
    have := closeAll_get hx
    subst this
    obtain ⟨vs, rfl, hs, hr⟩ := rep_agg h
    have hall : ∀ k x, cs[k]? = some x → RepC w E.pr x (vs.getD k undef) := fun k x hk => by
      have := hr k (.cv x) (by simp [hk])
      generalize vs.getD k undef = u at this
      cases this with | cv _ _ h => exact h
    have hs : vs.size = cs.length := by simpa using hs
    match cs, hne, hs, hall with
    | [], _, hs, hall => exact ⟨vs, rfl, hs, hall⟩
    | [c], hne, _, _ => exact (hne _ rfl).elim
    | _ :: _ :: _, _, hs, hall => exact ⟨vs, rfl, hs, hall⟩
  · cases hx
theorem avOf_rep {w : World} {E : Emb} {v : Value} {cs : List CV} (h : RepM w E.pr cs v) : RepA w E (avOf cs) v := by
  unfold RepM at h
  split at h
  · exact .cv _ _ h
  · rename_i hne
    obtain ⟨vs, rfl, hs, hr⟩ := h
    have : avOf cs = .agg (cs.map .cv) := by
      match cs, hne with
      | [], _ => rfl
      | [c], hne => exact (hne c rfl).elim
      | _ :: _ :: _, _ => rfl
    rw [this]
    refine .agg _ _ (by simpa using hs) fun k x hx => ?_
    simp only [List.getElem?_map, Option.map_eq_some_iff] at hx
    obtain ⟨c, hc, rfl⟩ := hx
    exact .cv _ _ (hr k c hc)

theorem zero_rep {w : World} {E : Emb} {i : TI} {z : Value} (hz : zeroOk i z) (h1 : i.zero.all oneV = true) {v : AV} (hv : mkVar i.agg (zeroA i) = some v) : RepA w E v z := by
  unfold zeroOk at hz
  unfold mkVar at hv
  split at hz
  · rename_i ha
    simp only [ha, if_true, Option.some.injEq] at hv
    subst hv; subst hz
    exact .agg _ _ (by simp [zeroA]) (zeroA_rep h1)
  · rename_i ha
    obtain ⟨u, e1, rfl, e3⟩ := hz
    simp only [ha, Bool.false_eq_true, if_false, zeroA, e1, List.map_cons, List.map_nil, Option.some.injEq] at hv
    subst hv
    exact .cv _ _ (.sc _ e3)

section
variable {C : Ctx} {o : Oper} {N : Nat} {T : Nat → AV} {H : Nat → Option Block}
theorem mem_map' {α β : Type} {P : Program} {w : World} {s : Sem α} {f : α → β} {e : Event} (h : e ∈ (f <$> s).events P w #[]) : e ∈ s.events P w #[] := by rwa [Sem.events_map] at h
theorem EvOk.obj {E : Emb} {w w' : World} {es : Array Event} {r : Nat} (hl : r < w'.heap.size) (h : ∀ e ∈ es, ∃ wr, e = ⟨.obj r, wr, false⟩) : EvOk E w w' es := fun e he => by
  obtain ⟨wr, rfl⟩ := h e he
  exact .inl (.inr ⟨r, wr, false, rfl, hl⟩)

/-- a slice beside nil -/
def sliceNil : AV → Option Bool
  | .cv (.sc (.slice a _ _)) => some a.isNone
  | .cv (.ro _ (_ :: _) _) => some false
  | _ => none
theorem slice_nil {nx : Nat} {K : Eff → Prop} {t ty e : TypeId} {op : BinOp} {x : Operand} {n c : Nat} (ho : o.op = .binOp op t x (.const (.slice none n c)) ty) (hu : C.P.underlying t = some (.slice e)) {q : Bool} (hq : sliceNil (ev T x) = some q)
    (h : match op with | .eql => K ⟨bv q, [], [], []⟩ | .neq => K ⟨bv (!q), [], [], []⟩ | _ => False) : CallVC C o N T H nx K := by
  unfold CallVC
  have hs : ∀ E (a : Act) w, RepA w E (ev T x) (a.eval x) → ∃ p n c, a.eval x = .slice p n c ∧ p.isNone = q := fun E a w hr => by
    unfold sliceNil at hq
    split at hq
    · rename_i e; rw [e] at hr; cases hq; exact ⟨_, _, _, rep_sc hr, rfl⟩
    · rename_i e; rw [e] at hr; cases hq
      obtain ⟨p, n, c, vs, e1, _, _, _, _, e6, _⟩ := rep_ro hr
      obtain ⟨ad, e7, _⟩ := e6 0 _ rfl
      exact ⟨p, n, c, e1, by rw [e7]; rfl⟩
    · cases hq
  have key : ∀ p n' c' w, (Op.equal t (.slice p n' c') (.slice none n c)).run C.P w = .ok p.isNone w ∧ (Op.equal t (.slice p n' c') (.slice none n c)).events C.P w #[] = #[] := fun p n' c' w => by
    unfold Op.equal
    rw [show Op.maxDepth = 9999 + 1 from rfl]
    unfold Op.equalIn
    rw [Sem.run_bind, Sem.events_bind, run_underlying hu, events_underlying]
    cases p <;> exact ⟨rfl, rfl⟩
  cases op <;> simp only at h
  case eql =>
    refine bin_base ho h fun E a w rx _ => ?_
    obtain ⟨p, n', c', e1, e2⟩ := hs E a w rx
    have e3 : a.eval (.const (.slice none n c)) = .slice none n c := rfl
    rw [e1, e3]
    refine ⟨.bool q, by unfold eqGuard; rfl, ?_, .cv _ _ (.sc _ rfl), by unfold eqGuard; rfl, ?_⟩
    · rw [show binOp .eql t (.slice p n' c') (.slice none n c) = (do pure (.bool (← Op.equal t (.slice p n' c') (.slice none n c)))) from rfl, Sem.run_bind, (key p n' c' w).1, e2]; rfl
    · rw [show binOp .eql t (.slice p n' c') (.slice none n c) = (do pure (.bool (← Op.equal t (.slice p n' c') (.slice none n c)))) from rfl, Sem.events_bind, (key p n' c' w).1, (key p n' c' w).2]; rfl
  case neq =>
    refine bin_base ho h fun E a w rx _ => ?_
    obtain ⟨p, n', c', e1, e2⟩ := hs E a w rx
    have e3 : a.eval (.const (.slice none n c)) = .slice none n c := rfl
    rw [e1, e3]
    refine ⟨.bool (!q), by unfold eqGuard; rfl, ?_, .cv _ _ (.sc _ rfl), by unfold eqGuard; rfl, ?_⟩
    · rw [show binOp .neq t (.slice p n' c') (.slice none n c) = (do pure (.bool (!(← Op.equal t (.slice p n' c') (.slice none n c))))) from rfl, Sem.run_bind, (key p n' c' w).1, e2]; rfl
    · rw [show binOp .neq t (.slice p n' c') (.slice none n c) = (do pure (.bool (!(← Op.equal t (.slice p n' c') (.slice none n c))))) from rfl, Sem.events_bind, (key p n' c' w).1, (key p n' c' w).2]; rfl

/-- a map is made -/
theorem map_make {nx : Nat} {K : Eff → Prop} {t : TypeId} (ho : o.op = .makeMap t none) (h : K ⟨.mp nx, [(nx, some (.mp []))], [nx], []⟩) : CallVC C o N T H nx K := by
  unfold CallVC
  refine ⟨_, loc_mk fun T' H' _ _ E a w ht hh hf => ?_, rfl, h⟩
  have hn : ¬ E.U nx := hf nx (by simp)
  have hr : (execOp a.eval o).run C.P w = .ok (.value (.map (some w.heap.size))) { w with heap := w.heap.push (.map #[] 0) } := by
    simp only [execOp, ho]; rfl
  have hev : (execOp a.eval o).events C.P w #[] = #[] := by simp only [execOp, ho]; rfl
  have old : ∀ r, r < w.heap.size → ({ w with heap := w.heap.push (.map #[] 0) } : World).heap[r]? = w.heap[r]? := fun r hr => push_old hr
  have hb : (E.add nx w.heap.size 0).blk nx = w.heap.size := by simp [Emb.add]
  obtain ⟨g1, g2⟩ := hh.alloc (B := .mp []) (s := 0) hn (by simp) old ⟨rfl, rfl, rfl⟩ ⟨by simp [Emb.add], #[], 0, by rw [hb]; simp, rfl, by simp⟩
  refine ⟨_, _, E.add nx w.heap.size 0, .inl hr, ?_, g1, g2, fun b => by simp [Emb.add, or_comm], .nil hev⟩
  have := RepA.mp (w := { w with heap := w.heap.push (.map #[] 0) }) (E := E.add nx w.heap.size 0) nx (.inl rfl) (by simp [Emb.add])
  rw [hb] at this; exact this

theorem rep_mp {w : World} {E : Emb} {b : Nat} {u : Value} (h : RepA w E (.mp b) u) : E.U b ∧ ¬ E.gh b ∧ u = .map (some (E.blk b)) := by cases h with | mp _ h1 h2 => exact ⟨h1, h2, rfl⟩

/-- how many entries -/
theorem map_len {nx : Nat} {K : Eff → Prop} {x : Operand} {ats : Array TypeId} (ho : o.op = .call { callee := .builtin .len, args := #[x], argTypes := ats }) {t kt et : TypeId} (hat : ats[0]? = some t) (hu : C.P.underlying t = some (.map kt et))
    {b : Nat} {es : List (Int × List CV)} (hx : ev T x = .mp b) (hb : H b = some (.mp es)) (h : K ⟨iv .i64 es.length, [], [], [b]⟩) : CallVC C o N T H nx K := by
  have mx : x ∈ o.op.operands := by simp [ho, Op.operands, Call.operands]
  unfold CallVC
  refine does_val h fun T' H' g1 g2 E a w ht hh => ?_
  obtain ⟨hU, hg, e1⟩ := rep_mp (rep_at ht (g1 x mx) hx)
  obtain ⟨_, ents, cl, hp, hs, hc⟩ := hh.hp b _ ((g2 b (by simp)).trans hb)
  refine ⟨_, w, by rw [run_builtin ho]; simp [builtin, Builtin.len_, hat, e1, run_underlying hu, run_getMap hp, goInt, hs], rfl, .cv _ _ (.sc _ rfl), ?_⟩
  refine EvOk.obj (r := E.blk b) (Array.getElem?_eq_some_iff.1 hp).1 fun e he => ?_
  rw [ev_builtin ho] at he
  have e0 : (Builtin.len_ ats o.type #[.map (some (E.blk b))]).events C.P w #[] = #[⟨.obj (E.blk b), false, false⟩] := by
    unfold Builtin.len_
    simp only [hat, List.getElem?_toArray, List.getElem?_cons_zero]
    rw [Sem.events_bind, run_underlying hu, events_underlying]
    simp only [Result.evThen_ok]
    rw [Sem.events_bind, run_getMap hp, ev_getMap hp]
    rfl
  simp only [builtin, List.map_toArray, List.map_cons, List.map_nil, e1] at he
  have he : e ∈ (Builtin.len_ ats o.type #[.map (some (E.blk b))]).events C.P w #[] := mem_map' (f := Next.value) he
  rw [e0] at he
  exact ⟨false, by simpa using he⟩

/-- an entry is written -/
theorem map_put {nx : Nat} {K : Eff → Prop} {t : TypeId} {m k x : Operand} (ho : o.op = .mapUpdate t m k x) {kt et : TypeId} (hu : C.P.underlying t = some (.map kt et)) (hk : C.P.underlying kt = some (.int .i64))
    {b : Nat} {z : Int} {cs : List CV} {es : List (Int × List CV)} (hm : ev T m = .mp b) (hz : ev T k = iv .i64 z) (hx : mvOf (ev T x) = some cs) (hb : H b = some (.mp es)) (h : K ⟨.any, [(b, some (.mp (putM es z cs)))], [], [b]⟩) : CallVC C o N T H nx K := by
  have mm : m ∈ o.op.operands := by simp [ho, Op.operands]
  have mk : k ∈ o.op.operands := by simp [ho, Op.operands]
  have mx : x ∈ o.op.operands := by simp [ho, Op.operands]
  unfold CallVC
  refine ⟨_, loc_mk fun T' H' g1 g2 E a w ht hh hf => ?_, rfl, h⟩
  obtain ⟨hU, hg, e1⟩ := rep_mp (rep_at ht (g1 m mm) hm)
  have e2 := rep_sc (rep_at ht (g1 k mk) hz)
  have e3 := mvOf_rep (rep_at ht (g1 x mx) rfl) hx
  have hB := (g2 b (by simp)).trans hb
  obtain ⟨_, ents, cl, hp, hs, hc⟩ := hh.hp b _ hB
  have hlt := (Array.getElem?_eq_some_iff.1 hp).1
  have key : ∃ ents' cl', (execOp a.eval o).run C.P w = .ok .skip { w with heap := w.heap.setIfInBounds (E.blk b) (.map ents' cl') } ∧ MapIs w E.pr (putM es z cs) ents' ∧ ∀ e ∈ (execOp a.eval o).events C.P w #[], ∃ wr, e = ⟨.obj (E.blk b), wr, false⟩ := by
    rcases findNow_map (z := z) (w := w) (pr := E.pr) (es := es) (ents := ents.toList) 0 ⟨by simpa using hs, by simpa using hc⟩ with ⟨q1, q2⟩ | ⟨j, e, ds, q1, q2, q3, q4, q5, q6⟩
    · refine ⟨ents.push { key := .int .i64 z, val := a.eval x, born := cl }, cl + 1, ?_, ⟨?_, fun i y c hi => ?_⟩, fun ev hev => ?_⟩
      · simp only [execOp, ho, Instr.mapUpdate, e1, e2]
        simp [Sem.run_bind, run_underlying hu, run_getMap hp, (run_checkKey (w := w) hk z).1, (run_findKey (w := w) hk q2).1, run_setMap _ hp]
      · rw [putM_none q1]; simp [hs]
      · rw [putM_none q1] at hi
        rw [List.getElem?_append] at hi
        split at hi
        · rename_i hil
          obtain ⟨e, f1, f2, f3⟩ := hc i y c hi
          exact ⟨e, by rw [Array.getElem?_push]; rw [if_neg (by omega)]; exact f1, f2, f3⟩
        · rename_i hil
          have : i = es.length := by
            have := (List.getElem?_eq_some_iff.1 hi).1
            simp at this; omega
          subst this
          simp only [Nat.sub_self, List.getElem?_cons_zero, Option.some.injEq, Prod.mk.injEq] at hi
          obtain ⟨rfl, rfl⟩ := hi
          exact ⟨_, by rw [Array.getElem?_push, if_pos hs.symm], rfl, e3⟩
      · simp only [execOp, ho, Instr.mapUpdate, e1, e2] at hev
        rcases mem_map' hev with hev
        rcases mem_seq hev (run_underlying hu w) with h0 | h0
        · simp [events_underlying] at h0
        rcases mem_seq h0 (run_getMap hp) with h0 | h0
        · rw [ev_getMap hp] at h0; exact ⟨_, by simpa using h0⟩
        rcases mem_seq h0 (run_checkKey (w := w) hk z).1 with h0 | h0
        · rw [(run_checkKey (w := w) hk z).2] at h0; simp at h0
        rcases mem_seq h0 (run_findKey (w := w) hk q2).1 with h0 | h0
        · rw [(run_findKey (w := w) hk q2).2] at h0; simp at h0
        rw [ev_setMap hp] at h0; exact ⟨_, by simpa using h0⟩
    · obtain ⟨p1, p2, p3⟩ := putM_some (cs := cs) q1
      have hjl : j < ents.size := by omega
      have hk' : ((ents[0 + j]?).map (·.key)).getD (.int .i64 z) = .int .i64 z := by
        have : ents[j]? = some e := by simpa using q2
        simp [this, q4]
      refine ⟨ents.modify (0 + j) fun e => { e with key := .int .i64 z, val := a.eval x }, cl, ?_, ⟨?_, fun i y c hi => ?_⟩, fun ev hev => ?_⟩
      · simp only [execOp, ho, Instr.mapUpdate, e1, e2]
        simp only [Sem.run_bind, Sem.run_map, run_underlying hu, run_getMap hp, (run_checkKey (w := w) hk z).1, (run_findKey (w := w) hk q6).1, Result.andThen_ok, hk', run_keyStays.1, run_setMap _ hp]
        simp
      · simp [hs, p1]
      · rw [p3 i] at hi
        have e0 : ents[j]? = some e := by simpa using q2
        by_cases hij : i = j
        · subst hij
          simp only [if_true, Option.some.injEq, Prod.mk.injEq] at hi
          obtain ⟨rfl, rfl⟩ := hi
          exact ⟨_, by rw [Array.getElem?_modify]; simp [e0]; rfl, rfl, e3⟩
        · rw [if_neg hij] at hi
          obtain ⟨e', f1, f2, f3⟩ := hc i y c hi
          exact ⟨e', by rw [Array.getElem?_modify]; rw [if_neg (by omega)]; exact f1, f2, f3⟩
      · simp only [execOp, ho, Instr.mapUpdate, e1, e2] at hev
        rcases mem_map' hev with hev
        rcases mem_seq hev (run_underlying hu w) with h0 | h0
        · simp [events_underlying] at h0
        rcases mem_seq h0 (run_getMap hp) with h0 | h0
        · rw [ev_getMap hp] at h0; exact ⟨_, by simpa using h0⟩
        rcases mem_seq h0 (run_checkKey (w := w) hk z).1 with h0 | h0
        · rw [(run_checkKey (w := w) hk z).2] at h0; simp at h0
        rcases mem_seq h0 (run_findKey (w := w) hk q6).1 with h0 | h0
        · rw [(run_findKey (w := w) hk q6).2] at h0; simp at h0
        simp only [hk'] at h0
        rcases mem_seq h0 run_keyStays.1 with h0 | h0
        · rw [run_keyStays.2] at h0; simp at h0
        rw [ev_setMap hp] at h0; exact ⟨_, by simpa using h0⟩
  obtain ⟨ents', cl', hrun, hm', hev⟩ := key
  have hoth : ∀ r, r ≠ E.blk b → ({ w with heap := w.heap.setIfInBounds (E.blk b) (.map ents' cl') } : World).heap[r]? = w.heap[r]? := fun r hr => by
    simp [Array.getElem?_setIfInBounds_ne (Ne.symm hr)]
  have hpr : ∀ r, E.pr r → ({ w with heap := w.heap.setIfInBounds (E.blk b) (.map ents' cl') } : World).heap[r]? = w.heap[r]? := fun r hr => hoth r fun e => (hh.un b _ hB).2 hg (e ▸ hh.prfr r hr)
  obtain ⟨k1, k2⟩ := hh.store (B' := .mp (putM es z cs)) (w' := { w with heap := w.heap.setIfInBounds (E.blk b) (.map ents' cl') }) hB hg (by simp) hoth ⟨rfl, rfl, rfl⟩ ⟨hg, ents', cl', by simp [hlt], hm'.1, fun i y c hi => by
    obtain ⟨e, f1, f2, f3⟩ := hm'.2 i y c hi
    exact ⟨e, f1, f2, f3.mono hpr fun _ h => h⟩⟩
  exact ⟨undef, _, E, .inr ⟨hrun, rfl⟩, .any _, k1, k2, fun b => by simp, .obj (by simpa using hlt) hev⟩

/-- an entry is asked for -/
theorem map_get {nx : Nat} {K : Eff → Prop} {t : TypeId} {m k : Operand} {ok : Bool} (ho : o.op = .lookup t m k ok) {kt et : TypeId} (hu : C.P.underlying t = some (.map kt et)) (hk : C.P.underlying kt = some (.int .i64))
    {b : Nat} {z : Int} {es : List (Int × List CV)} (hm : ev T m = .mp b) (hz : ev T k = iv .i64 z) (hb : H b = some (.mp es)) {r : Option (List CV)} (hr : getM es z = r) {i : TI} (hi : C.ti et = some i) {v : AV} (hv : mkVar i.agg (zeroA i) = some v)
    (h : K ⟨(match ok, r with | true, some cs => .tup [avOf cs, bv true] | true, none => .tup [v, bv false] | false, some cs => avOf cs | false, none => v), [], [], [b]⟩) : CallVC C o N T H nx K := by
  have mm : m ∈ o.op.operands := by simp [ho, Op.operands]
  have mk : k ∈ o.op.operands := by simp [ho, Op.operands]
  unfold CallVC
  refine does_val h fun T' H' g1 g2 E a w ht hh => ?_
  obtain ⟨hU, hg, e1⟩ := rep_mp (rep_at ht (g1 m mm) hm)
  have e2 := rep_sc (rep_at ht (g1 k mk) hz)
  have hB := (g2 b (by simp)).trans hb
  obtain ⟨_, ents, cl, hp, hs, hc⟩ := hh.hp b _ hB
  have hlt := (Array.getElem?_eq_some_iff.1 hp).1
  obtain ⟨z0, hz0, hzo⟩ := (C.ok _ _ hi).run_zero w
  have hzr : RepA w E v z0 := zero_rep hzo (C.ok _ _ hi).one hv
  have tup2 : ∀ {x y : AV} {u q : Value}, RepA w E x u → RepA w E y q → RepA w E (.tup [x, y]) (.tuple #[u, q]) := fun h1 h2 => .tup _ _ rfl fun k y hy => by
    match k, hy with
    | 0, hy => simp only [List.getElem?_cons_zero, Option.some.injEq] at hy; subst hy; exact h1
    | 1, hy => simp only [List.getElem?_cons_succ, List.getElem?_cons_zero, Option.some.injEq] at hy; subst hy; exact h2
  have hev : ∀ x, Instr.findNow (.int .i64) (.int .i64 z) ents.toList 0 = some x → EvOk E w w ((execOp a.eval o).events C.P w #[]) := fun x hx => EvOk.obj (r := E.blk b) hlt fun e he => by
    simp only [execOp, ho, Instr.lookup, e1, e2] at he
    rcases mem_map' he with he
    rcases mem_seq he (run_underlying hu w) with h0 | h0
    · simp [events_underlying] at h0
    rcases mem_seq h0 (run_getMap hp) with h0 | h0
    · rw [ev_getMap hp] at h0; exact ⟨_, by simpa using h0⟩
    rcases mem_seq h0 (show (pure ents : Sem (Array MapEntry)).run C.P w = Result.ok ents w from rfl) with h0 | h0
    · simp at h0
    rcases mem_seq h0 (run_checkKey (w := w) hk z).1 with h0 | h0
    · rw [(run_checkKey (w := w) hk z).2] at h0; simp at h0
    rcases mem_seq h0 (run_findKey (w := w) hk hx).1 with h0 | h0
    · rw [(run_findKey (w := w) hk hx).2] at h0; simp at h0
    cases x with
    | none =>
      rcases mem_seq h0 hz0 with h0 | h0
      · simp at h0
      · cases ok <;> simp at h0
    | some x =>
      rcases mem_seq h0 (show _ = Result.ok (x.2, true) w from rfl) with h0 | h0
      · simp at h0
      · cases ok <;> simp at h0
  rcases findNow_map (z := z) (w := w) (pr := E.pr) (es := es) (ents := ents.toList) 0 ⟨by simpa using hs, by simpa using hc⟩ with ⟨q1, q2⟩ | ⟨j, e, ds, q1, q2, q3, q4, q5, q6⟩
  · have hr0 : r = none := by
      rcases getM_idx (z := z) (es := es) with ⟨_, f2⟩ | ⟨j, cs, f1, _⟩
      · rw [← hr, f2]
      · rw [q1] at f1; cases f1
    subst hr0
    refine ⟨if ok then .tuple #[z0, .bool false] else z0, w, ?_, rfl, ?_, hev _ q2⟩
    · simp only [execOp, ho, Instr.lookup, e1, e2]
      simp only [Sem.run_bind, Sem.run_map, run_underlying hu, run_getMap hp, Result.andThen_ok, Sem.run_pure, (run_checkKey (w := w) hk z).1, (run_findKey (w := w) hk q2).1, hz0]
    · cases ok
      · exact hzr
      · exact tup2 hzr (.cv _ _ (.sc _ rfl))
  · have hr0 : r = some ds := by
      rcases getM_idx (z := z) (es := es) with ⟨f1, _⟩ | ⟨j', cs, f1, f2, f3⟩
      · rw [q1] at f1; cases f1
      · rw [q1] at f1; cases f1
        rw [q3] at f3; cases f3
        rw [← hr, f2]
    subst hr0
    refine ⟨if ok then .tuple #[e.val, .bool true] else e.val, w, ?_, rfl, ?_, hev _ q6⟩
    · simp only [execOp, ho, Instr.lookup, e1, e2]
      simp only [Sem.run_bind, Sem.run_map, run_underlying hu, run_getMap hp, Result.andThen_ok, Sem.run_pure, (run_checkKey (w := w) hk z).1, (run_findKey (w := w) hk q6).1]
    · cases ok
      · exact avOf_rep q5
      · exact tup2 (avOf_rep q5) (.cv _ _ (.sc _ rfl))
end
end Go.Proofs.YtdjoodbidcncaaaGreatDoor.AW
