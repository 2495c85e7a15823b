/- A call, by the callee's contract. -/
import Derived.Test.YtnffoddeppimkaaAwM
namespace Go.Proofs.Ytnffoddeppimkaa.AW
open Go

theorem RepC.frz {w : World} {E : Emb} {ns : List Nat} {c : CV} {v : Value} (h : RepC w E.pr c v) : RepC w (E.frz ns).pr c v := h.mono (fun _ _ => rfl) fun _ h => .inl h
theorem RepA.frz {w : World} {E : Emb} {ns : List Nat} {x : AV} {v : Value} (h : RepA w E x v) : RepA w (E.frz ns) x v := h.mono (E' := E.frz ns) (fun _ _ => rfl) (fun _ h => .inl h) fun _ h => ⟨h, rfl, rfl, .rfl⟩
theorem RepA.frz_mono {w : World} {E : Emb} {ns ms : List Nat} {x : AV} {v : Value} (hs : ∀ b ∈ ns, b ∈ ms) (h : RepA w (E.frz ns) x v) : RepA w (E.frz ms) x v :=
  h.mono (E := E.frz ns) (E' := E.frz ms) (fun _ _ => rfl) (fun _ h => h.imp id fun ⟨b, h1, h2⟩ => ⟨b, hs b h1, h2⟩) fun _ h => ⟨h, rfl, rfl, .rfl⟩

mutual
/-- a value handed over: rows and boxes that are not handed over as such are read only there -/
def vExp (bs : List Nat) (H : Nat → Option Block) : AV → (AV → List Nat → Prop) → Prop
  | .own b st o n cap, K => if bs.contains b then K (.own b st o n cap) [] else match H b with
    | some (.row st' es) => ck (st == st') <| o + n ≤ es.length ∧ K (.cv (.ro st ((es.drop o).take n) cap)) [b]
    | _ => False
  | .ptr b st i k, K => if bs.contains b then K (.ptr b st i k) [] else match H b with
    | some (.box l) => ck (i == 0) <| vFrz H (l.drop k) fun cs ns => K (.cv (.rp cs)) (b :: ns)
    | some (.row st' es) => ck (st == st') <| ∃ e, es[i]? = some e ∧ K (.cv (.rp (e.drop k))) [b]
    | none => False
  | .agg cs, K => vExpL bs H cs fun r ns => K (.agg r) ns
  | .tup cs, K => vExpL bs H cs fun r ns => K (.tup r) ns
  | .ifc t v, K => vExp bs H v fun r ns => K (.ifc t r) ns
  | .fn f fs cs, K => vExpL bs H fs fun r ns => vExpL bs H cs fun q ms => K (.fn f r q) (ns ++ ms)
  | .any, K => K .any []
  | .cv c, K => K (.cv c) []
def vExpL (bs : List Nat) (H : Nat → Option Block) : List AV → (List AV → List Nat → Prop) → Prop
  | [], K => K [] []
  | x :: l, K => vExp bs H x fun y ns => vExpL bs H l fun r ms => K (y :: r) (ns ++ ms)
end

/-- what an export says -/
def ExpOk (bs : List Nat) (H : Nat → Option Block) (x y : AV) (ns : List Nat) : Prop := (∀ b ∈ ns, (∃ B, H b = some B)) ∧
  ∀ (H' : Nat → Option Block), (∀ b ∈ ns, H' b = H b) → ∀ E w, HInv E H' w → ∀ u, RepA w E x u → RepA w (E.frz ns) y u
def ExpOkL (bs : List Nat) (H : Nat → Option Block) (xs ys : List AV) (ns : List Nat) : Prop := (∀ b ∈ ns, (∃ B, H b = some B)) ∧ ys.length = xs.length ∧
  ∀ (H' : Nat → Option Block), (∀ b ∈ ns, H' b = H b) → ∀ E w, HInv E H' w → ∀ (k : Nat) (y : AV), ys[k]? = some y → ∃ x, xs[k]? = some x ∧ ∀ u, RepA w E x u → RepA w (E.frz ns) y u

theorem RepA.aggL {w : World} {E E' : Emb} {xs ys : List AV} {vs : Array Value} (hl : ys.length = xs.length) (h : ∀ (k : Nat) (y : AV), ys[k]? = some y → ∃ x, xs[k]? = some x ∧ ∀ u, RepA w E x u → RepA w E' y u)
    (hs : vs.size = xs.length) (hr : ∀ (k : Nat) (x : AV), xs[k]? = some x → RepA w E x (vs.getD k undef)) : vs.size = ys.length ∧ ∀ (k : Nat) (y : AV), ys[k]? = some y → RepA w E' y (vs.getD k undef) :=
  ⟨hs.trans hl.symm, fun k y hy => by obtain ⟨x, hx, g⟩ := h k y hy; exact g _ (hr k x hx)⟩

mutual
theorem vExp_out {bs : List Nat} {H : Nat → Option Block} : ∀ {x : AV} {K : AV → List Nat → Prop}, vExp bs H x K → ∃ y ns, K y ns ∧ (∀ b ∈ ns, b ∉ bs ∨ (∃ B, H b = some B)) ∧ ExpOk bs H x y ns
  | .own b st o n cap, K, h => by
    simp only [vExp] at h
    split at h
    · exact ⟨_, [], h, by simp, by simp, fun _ _ E w _ u hu => hu.frz⟩
    · split at h
      · rename_i st' es hb
        replace h := ck_out h
        obtain ⟨hst, hl, h⟩ := h
        have hst : st = st' := by simpa using hst
        subst hst
        exact ⟨_, [b], h, by simpa using .inr ⟨_, hb⟩, by simpa using ⟨_, hb⟩, fun H' hH E w hi u hu => .cv _ _ (own_ro hi ((hH b (by simp)).trans hb) hu hl (fun _ h => .inl h) fun g => .inr ⟨b, by simp, g, rfl⟩)⟩
      · exact h.elim
  | .ptr b st i k, K, h => by
    simp only [vExp] at h
    split at h
    · exact ⟨_, [], h, by simp, by simp, fun _ _ E w _ u hu => hu.frz⟩
    · split at h
      · rename_i l hb
        replace h := ck_out h
        obtain ⟨hi0, h⟩ := h
        have hi0 : i = 0 := by simpa using hi0
        obtain ⟨cs, ns, hk, hlen, hB, hc⟩ := vFrz_out h
        have live : ∀ c ∈ b :: ns, ∃ B, H c = some B := fun c hc => by
          rcases List.mem_cons.1 hc with rfl | hc
          · exact ⟨_, hb⟩
          · exact hB c hc
        refine ⟨_, b :: ns, hk, fun c hc => .inr (live c hc), live, fun H' hH E w hi u hu => ?_⟩
        obtain ⟨hU, rfl⟩ := rep_ptr hu
        have hg := rep_ptr_g hu
        obtain ⟨_, cells, p, q1, q2, q3⟩ := hi.hp b _ ((hH b (by simp)).trans hb)
        refine .cv _ _ (.rp _ _ (fun q => cells.getD (k + q) undef) rfl (.inr ⟨b, by simp, hg, rfl⟩) (fun q y hy => ?_) fun q y hy => ?_)
        · have hq := (List.getElem?_eq_some_iff.1 hy).1
          rw [hlen] at hq
          simp at hq
          have hlt : k + q < cells.size := by omega
          subst hi0
          simp [cellAt, p.cell, Array.getD_eq_getD_getElem?, hlt]
        · obtain ⟨z, hz, hzr⟩ := hc H' (fun c hc => hH c (by simp [hc])) E w hi (E.frz (b :: ns)).pr (fun _ h => .inl h) (fun c hc hg => .inr ⟨c, by simp [hc], hg, rfl⟩) q y hy
          rw [List.getElem?_drop] at hz
          exact hzr _ (q3 _ z hz)
      · rename_i st' es hb
        replace h := ck_out h
        obtain ⟨hst, e, he, h⟩ := h
        have hst : st = st' := by simpa using hst
        subst hst
        refine ⟨_, [b], h, by simpa using .inr ⟨_, hb⟩, by simpa using ⟨_, hb⟩, fun H' hH E w hi u hu => ?_⟩
        obtain ⟨hU, rfl⟩ := rep_ptr hu
        have hg := rep_ptr_g hu
        obtain ⟨_, cells, p, q1, q2, q3, q4⟩ := (hi.hp b _ ((hH b (by simp)).trans hb)).resolve_left fun g => hg g.1
        refine .cv _ _ (.rp _ _ (fun q => cells.getD (i * st + (k + q)) undef) rfl (.inr ⟨b, by simp, hg, rfl⟩) (fun q y hy => ?_) fun q y hy => ?_)
        · rw [List.getElem?_drop] at hy
          have hq := (List.getElem?_eq_some_iff.1 hy).1
          rw [q3 e (List.mem_of_getElem? he)] at hq
          have hil := (List.getElem?_eq_some_iff.1 he).1
          have h2 : (i + 1) * st ≤ es.length * st := Nat.mul_le_mul_right _ hil
          rw [Nat.succ_mul] at h2
          have hlt : i * st + k + q < cells.size := by omega
          simp [cellAt, p.cell, Array.getD_eq_getD_getElem?, hlt, ← Nat.add_assoc]
        · rw [List.getElem?_drop] at hy
          exact (q4 i e (k + q) y he hy).frz
      · exact h.elim
  | .agg cs, K, h => by
    simp only [vExp] at h
    obtain ⟨r, ns, hk, hn, h1, h2, h3⟩ := vExpL_out h
    exact ⟨_, ns, hk, hn, h1, fun H' hH E w hi u hu => by
      obtain ⟨vs, rfl, hs, hr⟩ := rep_agg hu
      obtain ⟨a1, a2⟩ := RepA.aggL h2 (h3 H' hH E w hi) hs hr
      exact .agg _ _ a1 a2⟩
  | .tup cs, K, h => by
    simp only [vExp] at h
    obtain ⟨r, ns, hk, hn, h1, h2, h3⟩ := vExpL_out h
    exact ⟨_, ns, hk, hn, h1, fun H' hH E w hi u hu => by
      obtain ⟨vs, rfl, hs, hr⟩ := rep_tup hu
      obtain ⟨a1, a2⟩ := RepA.aggL h2 (h3 H' hH E w hi) hs hr
      exact .tup _ _ a1 a2⟩
  | .ifc t v, K, h => by
    simp only [vExp] at h
    obtain ⟨r, ns, hk, hn, h1, h2⟩ := vExp_out h
    exact ⟨_, ns, hk, hn, h1, fun H' hH E w hi u hu => by
      obtain ⟨v, rfl, hv⟩ := rep_ifc hu
      exact .ifc _ _ _ (h2 H' hH E w hi v hv)⟩
  | .fn f fs cs, K, h => by
    simp only [vExp] at h
    obtain ⟨r, ns, h, hn, h1, h2, h3⟩ := vExpL_out h
    obtain ⟨q, ms, hk, hm, g1, g2, g3⟩ := vExpL_out h
    refine ⟨_, ns ++ ms, hk, fun b hb => (List.mem_append.1 hb).elim (hn b) (hm b), fun b hb => (List.mem_append.1 hb).elim (h1 b) (g1 b), fun H' hH E w hi u hu => ?_⟩
    cases hu with
    | fn _ _ _ a b ha hb hf hg =>
      obtain ⟨a1, a2⟩ := RepA.aggL h2 (h3 H' (fun b hb => hH b (List.mem_append.2 (.inl hb))) E w hi) ha hf
      obtain ⟨b1, b2⟩ := RepA.aggL g2 (g3 H' (fun b hb => hH b (List.mem_append.2 (.inr hb))) E w hi) hb hg
      exact .fn _ _ _ _ _ a1 b1 (fun k y hy => (a2 k y hy).frz_mono fun b hb => List.mem_append.2 (.inl hb)) (fun k y hy => (b2 k y hy).frz_mono fun b hb => List.mem_append.2 (.inr hb))
  | .any, K, h => ⟨_, [], h, by simp, by simp, fun _ _ E w _ u hu => hu.frz⟩
  | .cv c, K, h => ⟨_, [], h, by simp, by simp, fun _ _ E w _ u hu => hu.frz⟩
theorem vExpL_out {bs : List Nat} {H : Nat → Option Block} : ∀ {xs : List AV} {K : List AV → List Nat → Prop}, vExpL bs H xs K → ∃ ys ns, K ys ns ∧ (∀ b ∈ ns, b ∉ bs ∨ (∃ B, H b = some B)) ∧ ExpOkL bs H xs ys ns
  | [], K, h => ⟨[], [], h, by simp, by simp, rfl, fun _ _ _ _ _ k y hy => by simp at hy⟩
  | x :: l, K, h => by
    simp only [vExpL] at h
    obtain ⟨y, ns, h, hn, h1, h2⟩ := vExp_out h
    obtain ⟨r, ms, hk, hm, g1, g2, g3⟩ := vExpL_out h
    refine ⟨y :: r, ns ++ ms, hk, fun b hb => (List.mem_append.1 hb).elim (hn b) (hm b), fun b hb => (List.mem_append.1 hb).elim (h1 b) (g1 b), by simp [g2], fun H' hH E w hi k z hz => ?_⟩
    cases k with
    | zero =>
      simp only [List.getElem?_cons_zero, Option.some.injEq] at hz
      subst hz
      exact ⟨x, rfl, fun u hu => (h2 H' (fun b hb => hH b (List.mem_append.2 (.inl hb))) E w hi u hu).frz_mono fun b hb => List.mem_append.2 (.inl hb)⟩
    | succ k =>
      obtain ⟨z', hz', g⟩ := g3 H' (fun b hb => hH b (List.mem_append.2 (.inr hb))) E w hi k z (by simpa using hz)
      exact ⟨z', by simpa using hz', fun u hu => (g u hu).frz_mono fun b hb => List.mem_append.2 (.inr hb)⟩
end
end Go.Proofs.Ytnffoddeppimkaa.AW
