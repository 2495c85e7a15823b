/- A call, by the callee's contract: the rule. -/
import Derived.Test.YtnffoddeppimkaaAwN
namespace Go.Proofs.Ytnffoddeppimkaa.AW
open Go

mutual
/-- names turned -/
def renA (μ : Nat → Nat) : AV → AV
  | .ptr b st i k => .ptr (μ b) st i k
  | .own b st o n cap => .own (μ b) st o n cap
  | .agg cs => .agg (renL μ cs)
  | .tup cs => .tup (renL μ cs)
  | .ifc t v => .ifc t (renA μ v)
  | .fn f fs cs => .fn f (renL μ fs) (renL μ cs)
  | x => x
def renL (μ : Nat → Nat) : List AV → List AV
  | [] => []
  | x :: l => renA μ x :: renL μ l
end
def renB (μ : Nat → Nat) : Block → Block
  | .box cs => .box (renL μ cs)
  | .row st es => .row st es
mutual
/-- all names are below n -/
def nmA (n : Nat) : AV → Bool
  | .ptr b _ _ _ => decide (b < n)
  | .own b _ _ _ _ => decide (b < n)
  | .agg cs => nmL n cs
  | .tup cs => nmL n cs
  | .ifc _ v => nmA n v
  | .fn _ fs cs => nmL n fs && nmL n cs
  | _ => true
def nmL (n : Nat) : List AV → Bool
  | [] => true
  | x :: l => nmA n x && nmL n l
end
def nmB (n : Nat) : Block → Bool
  | .box cs => nmL n cs
  | .row _ _ => true
def IsSc : CV → Prop
  | .sc _ => True
  | .ifc _ c => IsSc c
  | _ => False
mutual
/-- nothing in it is read only memory -/
def NoR : AV → Prop
  | .cv c => IsSc c
  | .agg cs => NoRL cs
  | .tup cs => NoRL cs
  | .ifc _ v => NoR v
  | .fn _ fs cs => NoRL fs ∧ NoRL cs
  | _ => True
def NoRL : List AV → Prop
  | [] => True
  | x :: l => NoR x ∧ NoRL l
end
def NoRB : Block → Prop
  | .box cs => NoRL cs
  | .row _ es => ∀ e ∈ es, ∀ c ∈ e, IsSc c
def NoRH : List (Nat × Option Block) → Prop
  | [] => True
  | (_, none) :: l => NoRH l
  | (_, some B) :: l => NoRB B ∧ NoRH l
def nmH (n : Nat) : List (Nat × Option Block) → Bool
  | [] => true
  | (b, none) :: l => nmH n l
  | (b, some B) :: l => decide (b < n) && nmB n B && nmH n l
theorem NoRH.out : ∀ {l : List (Nat × Option Block)} {b : Nat} {B : Block}, NoRH l → geth l b = some B → NoRB B
  | (c, none) :: l, b, B, h, hb => by
    simp only [NoRH] at h; simp only [geth] at hb
    split at hb
    · cases hb
    · exact NoRH.out h hb
  | (c, some D) :: l, b, B, h, hb => by
    simp only [NoRH] at h; simp only [geth] at hb
    split at hb
    · cases hb; exact h.1
    · exact NoRH.out h.2 hb
theorem nmH_out {n : Nat} : ∀ {l : List (Nat × Option Block)} {b : Nat} {B : Block}, nmH n l = true → geth l b = some B → b < n ∧ nmB n B = true
  | (c, none) :: l, b, B, h, hb => by
    simp only [nmH] at h; simp only [geth] at hb
    split at hb
    · cases hb
    · exact nmH_out h hb
  | (c, some D) :: l, b, B, h, hb => by
    simp only [nmH, Bool.and_eq_true, decide_eq_true_eq] at h; simp only [geth] at hb
    split at hb
    · rename_i e
      have := Nat.eq_of_beq_eq_true e
      cases hb; subst this; exact h.1
    · exact nmH_out h.2 hb

theorem IsSc.rep {w w' : World} {pr pr' : Nat → Prop} : ∀ {c : CV} {v : Value}, IsSc c → RepC w pr c v → RepC w' pr' c v
  | .sc u, v, _, h => by cases h with | sc _ ho => exact .sc _ ho
  | .ifc t c, v, hs, h => by cases h with | ifc _ _ u hu => exact .ifc _ _ _ (IsSc.rep hs hu)
/-- a value of the callee's, told by the caller's names -/
structure Turn (w : World) (n : Nat) (μ : Nat → Nat) (E E' : Emb) : Prop where
  nm : ∀ b, b < n → E.U b → E'.U (μ b) ∧ E'.blk (μ b) = E.blk b ∧ E'.sz (μ b) = E.sz b ∧ (E'.gh (μ b) ↔ E.gh b)
mutual
theorem renA_rep {w : World} {n : Nat} {μ : Nat → Nat} {E E' : Emb} (ht : Turn w n μ E E') : ∀ {x : AV} {v : Value}, nmA n x = true → ((∀ r, E.pr r → E'.pr r) ∨ NoR x) → RepA w E x v → RepA w E' (renA μ x) v
  | .any, v, _, _, _ => .any v
  | .cv c, v, _, hp, h => by
    cases h with
    | cv _ _ h =>
      rcases hp with hp | hp
      · exact .cv _ _ (h.mono (fun _ _ => rfl) hp)
      · exact .cv _ _ (IsSc.rep hp h)
  | .ptr b st i k, v, hn, _, h => by
    obtain ⟨hU, rfl⟩ := rep_ptr h
    have hg := rep_ptr_g h
    simp only [nmA, decide_eq_true_eq] at hn
    obtain ⟨a1, a2, a3, a4⟩ := ht.nm b hn hU
    rw [← a2]; exact .ptr _ _ _ _ a1 fun g => hg (a4.1 g)
  | .own b st o m cap, v, hn, _, h => by
    obtain ⟨c, a, rfl, hU, hnc, hc, hh⟩ := rep_own h
    simp only [nmA, decide_eq_true_eq] at hn
    obtain ⟨a1, a2, a3, a4⟩ := ht.nm b hn hU
    rcases hh with ⟨hg, rfl, hs⟩ | ⟨hg, rfl, rfl⟩
    · rw [← a2]; exact .own _ _ _ _ _ _ a1 (fun g => hg (a4.1 g)) hnc hc (a3 ▸ hs)
    · exact .own0 _ _ _ _ _ a1 (a4.2 hg) fun x hx => (hc x hx).symm
  | .agg cs, v, hn, hp, h => by
    obtain ⟨vs, rfl, hs, hr⟩ := rep_agg h
    obtain ⟨g1, g2⟩ := renL_rep ht (xs := cs) (by simpa [nmA] using hn) (hp.imp id (by simp [NoR]))
    exact .agg _ _ (hs.trans g1.symm) fun k y hy => by obtain ⟨x, hx, g⟩ := g2 k y hy; exact g _ (hr k x hx)
  | .tup cs, v, hn, hp, h => by
    obtain ⟨vs, rfl, hs, hr⟩ := rep_tup h
    obtain ⟨g1, g2⟩ := renL_rep ht (xs := cs) (by simpa [nmA] using hn) (hp.imp id (by simp [NoR]))
    exact .tup _ _ (hs.trans g1.symm) fun k y hy => by obtain ⟨x, hx, g⟩ := g2 k y hy; exact g _ (hr k x hx)
  | .ifc t c, v, hn, hp, h => by
    obtain ⟨u, rfl, hu⟩ := rep_ifc h
    exact .ifc _ _ _ (renA_rep ht (by simpa [nmA] using hn) (hp.imp id (by simp [NoR])) hu)
  | .fn f fs cs, v, hn, hp, h => by
    simp only [nmA, Bool.and_eq_true] at hn
    obtain ⟨g1, g2⟩ := renL_rep ht (xs := fs) hn.1 (hp.imp id fun h => by simp only [NoR] at h; exact h.1)
    obtain ⟨k1, k2⟩ := renL_rep ht (xs := cs) hn.2 (hp.imp id fun h => by simp only [NoR] at h; exact h.2)
    cases h with
    | fn _ _ _ a b ha hb hf hg =>
      exact .fn _ _ _ _ _ (ha.trans g1.symm) (hb.trans k1.symm) (fun k y hy => by obtain ⟨x, hx, g⟩ := g2 k y hy; exact g _ (hf k x hx)) (fun k y hy => by obtain ⟨x, hx, g⟩ := k2 k y hy; exact g _ (hg k x hx))
theorem renL_rep {w : World} {n : Nat} {μ : Nat → Nat} {E E' : Emb} (ht : Turn w n μ E E') : ∀ {xs : List AV}, nmL n xs = true → ((∀ r, E.pr r → E'.pr r) ∨ NoRL xs) → (renL μ xs).length = xs.length ∧ ∀ (k : Nat) (y : AV), (renL μ xs)[k]? = some y → ∃ x, xs[k]? = some x ∧ ∀ v, RepA w E x v → RepA w E' y v
  | [], _, _ => ⟨rfl, fun k y hy => by simp [renL] at hy⟩
  | x :: l, hn, hp => by
    simp only [nmL, Bool.and_eq_true] at hn
    obtain ⟨h1, h2⟩ := renL_rep ht (xs := l) hn.2 (hp.imp id fun h => by simp only [NoRL] at h; exact h.2)
    refine ⟨by simp [renL, h1], fun k y hy => ?_⟩
    cases k with
    | zero =>
      simp only [renL, List.getElem?_cons_zero, Option.some.injEq] at hy
      subst hy
      exact ⟨x, rfl, fun v hv => renA_rep ht hn.1 (hp.imp id fun h => by simp only [NoRL] at h; exact h.1) hv⟩
    | succ k => simpa using h2 k y (by simpa [renL] using hy)
end
theorem renB_rep {w : World} {n : Nat} {μ : Nat → Nat} {E E' : Emb} (ht : Turn w n μ E E') {b : Nat} {B : Block} (hb : b < n) (hU : E.U b) (hn : nmB n B = true) (hp : (∀ r, E.pr r → E'.pr r) ∨ NoRB B) (h : RepB w E b B) : RepB w E' (μ b) (renB μ B) := by
  obtain ⟨a1, a2, a3, a4⟩ := ht.nm b hb hU
  cases B with
  | box cs =>
    obtain ⟨hg, cells, p, q1, q2, q3⟩ := h
    obtain ⟨g1, g2⟩ := renL_rep ht (xs := cs) (by simpa [nmB] using hn) (hp.imp id (by simp [NoRB]))
    refine ⟨fun g => hg (a4.1 g), cells, by rw [a2]; exact p, by rw [a3]; exact q1, by omega, fun k y hy => ?_⟩
    obtain ⟨x, hx, g⟩ := g2 k y hy
    exact g _ (q3 k x hx)
  | row st es =>
    rcases h with ⟨hg, he⟩ | ⟨hg, cells, p, q1, q2, q3, q4⟩
    · exact .inl ⟨a4.2 hg, he⟩
    · refine .inr ⟨fun g => hg (a4.1 g), cells, by rw [a2]; exact p, by rw [a3]; exact q1, q2, q3, fun i e k x hi hx => ?_⟩
      rcases hp with hp | hp
      · exact (q4 i e k x hi hx).mono (fun _ _ => rfl) hp
      · exact IsSc.rep (hp e (List.mem_of_getElem? hi) x (List.mem_of_getElem? hx)) (q4 i e k x hi hx)

/-- the blocks handed over as such -/
def vPass (bs : List Nat) (H : Nat → Option Block) (σ : Nat → Option Nat) : List Nat → List Block → (List Nat → Prop) → Prop
  | [], [], K => K []
  | b :: l, B :: m, K => match H b, B with
    | some (.row st es), .row st' es' => st = st' ∧ es = es' ∧ vPass bs H σ l m K
    | some (.box xs), .box ys => vExpL bs H xs fun zs ns => LeL σ ys zs ∧ vPass bs H σ l m fun ms => K (ns ++ ms)
    | _, _ => False
  | _, _, _ => False
def PassOk (w : World) (E : Emb) (σ : Nat → Option Nat) (ns : List Nat) (b i : Nat) (B : Block) : Prop := ∀ E', (∀ y v, RepA w ((E.frz ns).ren σ) y v → RepA w E' y v) → (∀ r, (E.frz ns).pr r → E'.pr r) → E'.blk i = E.blk b → E'.sz i = E.sz b → (E'.gh i ↔ E.gh b) → RepB w E' i B
theorem vPass_out {bs : List Nat} {H : Nat → Option Block} {σ : Nat → Option Nat} : ∀ {l : List Nat} {m : List Block} {K : List Nat → Prop}, vPass bs H σ l m K → ∃ ns, K ns ∧ (∀ b ∈ ns, (∃ B, H b = some B)) ∧ l.length = m.length ∧ (∀ b ∈ l, ∃ B, H b = some B) ∧
    ∀ (H' : Nat → Option Block), (∀ b ∈ ns, H' b = H b) → (∀ b ∈ l, H' b = H b) → ∀ E w, HInv E H' w → ∀ ms, (∀ b ∈ ns, b ∈ ms) → ∀ (i b : Nat) (B : Block), l[i]? = some b → m[i]? = some B → ∀ j, PassOk w E σ ms b j B
  | [], [], K, h => ⟨[], h, by simp, rfl, by simp, fun _ _ _ _ _ _ _ _ i b B hi => by simp at hi⟩
  | b :: l, B :: m, K, h => by
    simp only [vPass] at h
    split at h
    · rename_i st es st' es' hb
      obtain ⟨rfl, rfl, h⟩ := h
      obtain ⟨ns, hk, h1, h2, h3, h4⟩ := vPass_out h
      refine ⟨ns, hk, h1, by simp [h2], fun c hc => ?_, fun H' hH hL E w hi ms hm i c B hci hB => ?_⟩
      · rcases List.mem_cons.1 hc with rfl | hc
        · exact ⟨_, hb⟩
        · exact h3 c hc
      · cases i with
        | zero =>
          simp only [List.getElem?_cons_zero, Option.some.injEq] at hci hB
          subst hci; subst hB
          intro j E' _ hpr e1 e2 e3
          rcases hi.hp b _ ((hL b (by simp)).trans hb) with ⟨hg, he⟩ | ⟨hg, cells, p, q1, q2, q3, q4⟩
          · exact .inl ⟨e3.2 hg, he⟩
          · exact .inr ⟨fun g => hg (e3.1 g), cells, by rw [e1]; exact p, by rw [e2]; exact q1, q2, q3, fun i e k x hi hx => (q4 i e k x hi hx).mono (fun _ _ => rfl) fun r hr => hpr r (.inl hr)⟩
        | succ i => exact h4 H' hH (fun c hc => hL c (by simp [hc])) E w hi ms hm i c B (by simpa using hci) (by simpa using hB)
    · rename_i xs ys hb
      obtain ⟨zs, ns0, ⟨hle, h⟩, hn0, g1, g2, g3⟩ := vExpL_out h
      obtain ⟨ns, hk, h1, h2, h3, h4⟩ := vPass_out h
      refine ⟨ns0 ++ ns, hk, fun c hc => (List.mem_append.1 hc).elim (g1 c) (h1 c), by simp [h2], fun c hc => ?_, fun H' hH hL E w hi ms hm i c B hci hB => ?_⟩
      · rcases List.mem_cons.1 hc with rfl | hc
        · exact ⟨_, hb⟩
        · exact h3 c hc
      · cases i with
        | zero =>
          simp only [List.getElem?_cons_zero, Option.some.injEq] at hci hB
          subst hci; subst hB
          intro j E' hE' _ e1 e2 e3
          obtain ⟨hg, cells, p, q1, q2, q3⟩ := hi.hp b _ ((hL b (by simp)).trans hb)
          obtain ⟨l1, l2⟩ := LeL.rep hle (w := w) (E := E.frz ms)
          refine ⟨fun g => hg (e3.1 g), cells, by rw [e1]; exact p, by rw [e2]; exact q1, by omega, fun k y hy => ?_⟩
          obtain ⟨z, hz, hzr⟩ := l2 k y hy
          obtain ⟨x, hx, hxr⟩ := g3 H' (fun c hc => hH c (List.mem_append.2 (.inl hc))) E w hi k z hz
          exact hE' _ _ (hzr _ ((hxr _ (q3 k x hx)).frz_mono fun c hc => hm c (List.mem_append.2 (.inl hc))))
        | succ i => exact h4 H' (fun c hc => hH c (List.mem_append.2 (.inr hc))) (fun c hc => hL c (by simp [hc])) E w hi ms (fun c hc => hm c (List.mem_append.2 (.inr hc))) i c B (by simpa using hci) (by simpa using hB)
    · exact h.elim
end Go.Proofs.Ytnffoddeppimkaa.AW
