/- Abstract states of a walk: values, blocks, and what a true state is to one of them. -/
import Derived.WalkKit
import Derived.Deep.QuietTactic
set_option linter.unusedVariables false
set_option linter.unusedSimpArgs false
namespace Go.Proofs.YtdjoodbidcncaaaGreatDoor.AW
open Go

/-- closed values: no name of a block of one's own -/
inductive CV where
  | sc (v : Value)
  | ro (st : Nat) (es : List (List CV)) (cap : Option Nat)
  | rp (cs : List CV)
  | ifc (t : TypeId) (v : CV)

inductive AV where
  | any
  | cv (c : CV)
  | ptr (b st i k : Nat)
  | own (b st o n : Nat) (cap : Option Nat)
  | agg (cs : List AV)
  | tup (cs : List AV)
  | ifc (t : TypeId) (v : AV)
  | fn (f : Fn) (fst cap : List AV)
  | mp (b : Nat)
  | ch (b : Nat)

inductive Block where
  | box (cs : List AV)
  | row (st : Nat) (es : List (List CV))
  | mp (es : List (Int × List CV))
  | ch (cap : Nat) (es : List CV) (shut : Bool)

structure Emb where
  blk : Nat → Nat
  sz : Nat → Nat
  U : Nat → Prop
  gh : Nat → Prop
  pr : Nat → Prop
  fr : Nat → Prop

def cellAt (w : World) (b o : Nat) : Option Value := w.cell? ⟨b, o, none⟩

/-- what fills one cell, at sight -/
def oneV : Value → Bool
  | .agg _ | .tuple _ => false
  | _ => true

inductive RepC (w : World) (pr : Nat → Prop) : CV → Value → Prop
  | sc (v : Value) (ho : oneV v = true) : RepC w pr (.sc v) v
  | ro (st : Nat) (es : List (List CV)) (cap : Option Nat) (a : Option Addr) (n c : Nat) (vs : Nat → Nat → Value)
      (hn : n = es.length) (hc : n ≤ c) (hcap : ∀ x, cap = some x → c = x) (hst : ∀ e ∈ es, e.length = st)
      (hcell : ∀ i e, es[i]? = some e → ∃ ad, a = some ad ∧ ad.spot = none ∧ pr ad.block ∧ ∀ k x, e[k]? = some x → cellAt w ad.block (ad.off + (i * st + k)) = some (vs i k))
      (hrep : ∀ i e k x, es[i]? = some e → e[k]? = some x → RepC w pr x (vs i k)) :
      RepC w pr (.ro st es cap) (.slice a n c)
  | rp (cs : List CV) (p : Addr) (vs : Nat → Value) (hs : p.spot = none) (hp : pr p.block)
      (hcell : ∀ k x, cs[k]? = some x → cellAt w p.block (p.off + k) = some (vs k)) (hrep : ∀ k x, cs[k]? = some x → RepC w pr x (vs k)) :
      RepC w pr (.rp cs) (.pointer (some p))
  | ifc (t : TypeId) (c : CV) (v : Value) (h : RepC w pr c v) : RepC w pr (.ifc t c) (.iface t v)

inductive RepA (w : World) (E : Emb) : AV → Value → Prop
  | any (v : Value) : RepA w E .any v
  | cv (c : CV) (v : Value) (h : RepC w E.pr c v) : RepA w E (.cv c) v
  | ptr (b st i k : Nat) (hU : E.U b) (hg : ¬ E.gh b) : RepA w E (.ptr b st i k) (.pointer (some ⟨E.blk b, i * st + k, none⟩))
  | own (b st o n : Nat) (cap : Option Nat) (c : Nat) (hU : E.U b) (hg : ¬ E.gh b) (hn : n ≤ c) (hcap : ∀ x, cap = some x → c = x) (hsz : (o + c) * st ≤ E.sz b) :
      RepA w E (.own b st o n cap) (.slice (some ⟨E.blk b, o * st, none⟩) n c)
  | own0 (b st o : Nat) (cap : Option Nat) (a : Option Addr) (hU : E.U b) (hg : E.gh b) (hcap : ∀ x, cap = some x → x = 0) : RepA w E (.own b st o 0 cap) (.slice a 0 0)
  | agg (cs : List AV) (vs : Array Value) (hs : vs.size = cs.length) (h : ∀ k x, cs[k]? = some x → RepA w E x (vs.getD k undef)) : RepA w E (.agg cs) (.agg vs)
  | tup (cs : List AV) (vs : Array Value) (hs : vs.size = cs.length) (h : ∀ k x, cs[k]? = some x → RepA w E x (vs.getD k undef)) : RepA w E (.tup cs) (.tuple vs)
  | ifc (t : TypeId) (c : AV) (v : Value) (h : RepA w E c v) : RepA w E (.ifc t c) (.iface t v)
  | fn (f : Fn) (fs cs : List AV) (a b : Array Value) (ha : a.size = fs.length) (hb : b.size = cs.length)
      (hf : ∀ k x, fs[k]? = some x → RepA w E x (a.getD k undef)) (hg : ∀ k x, cs[k]? = some x → RepA w E x (b.getD k undef)) : RepA w E (.fn f fs cs) (.func f a b)
  | mp (b : Nat) (hU : E.U b) (hg : ¬ E.gh b) : RepA w E (.mp b) (.map (some (E.blk b)))
  | ch (b : Nat) (hU : E.U b) (hg : ¬ E.gh b) : RepA w E (.ch b) (.chan (some (E.blk b)))

/-- a value of a map's -/
def RepM (w : World) (pr : Nat → Prop) (cs : List CV) (v : Value) : Prop := match cs with
  | [c] => RepC w pr c v
  | cs => ∃ vs : Array Value, v = .agg vs ∧ vs.size = cs.length ∧ ∀ k x, cs[k]? = some x → RepC w pr x (vs.getD k undef)

/-- a block of cells that bears no mark of a string -/
def Plain (w : World) (r : Nat) (cells : Array Value) : Prop := ∃ ty lo hi, w.heap[r]? = some (.cells cells ty (lo, hi)) ∧ ∀ o, o < cells.size → ¬ (lo ≤ o ∧ o < hi)

def RepB (w : World) (E : Emb) (b : Nat) : Block → Prop
  | .box cs => ¬ E.gh b ∧ ∃ cells, Plain w (E.blk b) cells ∧ cells.size = E.sz b ∧ cs.length ≤ cells.size ∧ ∀ k x, cs[k]? = some x → RepA w E x (cells.getD k undef)
  | .row st es => (E.gh b ∧ es = []) ∨ ¬ E.gh b ∧ ∃ cells, Plain w (E.blk b) cells ∧ cells.size = E.sz b ∧ es.length * st ≤ cells.size ∧ (∀ e ∈ es, e.length = st) ∧
      ∀ i e k x, es[i]? = some e → e[k]? = some x → RepC w E.pr x (cells.getD (i * st + k) undef)
  | .mp es => ¬ E.gh b ∧ ∃ (ents : Array MapEntry) (clock : Nat), w.heap[E.blk b]? = some (.map ents clock) ∧ ents.size = es.length ∧ ∀ (k : Nat) (z : Int) (x : List CV), es[k]? = some (z, x) → ∃ e : MapEntry, ents[k]? = some e ∧ e.key = .int .i64 z ∧ RepM w E.pr x e.val
  | .ch cap es shut => ¬ E.gh b ∧ ∃ (buf : Array Value) (s r : Nat) (tm : Bool), w.heap[E.blk b]? = some (.chan cap buf shut s r tm) ∧ buf.size = es.length ∧ ∀ (k : Nat) (x : CV), es[k]? = some x → RepC w E.pr x (buf.getD k undef)

structure HInv (E : Emb) (H : Nat → Option Block) (w : World) : Prop where
  hp : ∀ b B, H b = some B → RepB w E b B
  un : ∀ b B, H b = some B → E.U b ∧ (¬ E.gh b → ¬ E.fr (E.blk b))
  inj : ∀ b b' B B', H b = some B → H b' = some B' → ¬ E.gh b → ¬ E.gh b' → E.blk b = E.blk b' → b = b'
  prfr : ∀ r, E.pr r → E.fr r
  frlt : ∀ r, E.fr r → r < w.heap.size

structure TInv (N : Nat) (E : Emb) (T : Nat → AV) (a : Act) (w : World) : Prop where
  tm : ∀ t, RepA w E (T t) (a.tmps.getD t undef)
  sz : a.tmps.size = N
  df : a.defers = []

/-- the streams and the tape stay -/
def SameIO (w w' : World) : Prop := w'.os = w.os ∧ w'.tape = w.tape ∧ w'.output = w.output
theorem SameIO.trans {a b c : World} (h : SameIO a b) (g : SameIO b c) : SameIO a c := ⟨g.1.trans h.1, g.2.1.trans h.2.1, g.2.2.trans h.2.2⟩
/-- what a step leaves as it was -/
structure Ext (K : Nat → Prop) (E : Emb) (w : World) (E' : Emb) (w' : World) : Prop where
  keep : ∀ r, E.fr r → w'.heap[r]? = w.heap[r]?
  fr : ∀ r, E.fr r → E'.fr r
  pr : ∀ r, E.pr r → E'.pr r
  sz : w.heap.size ≤ w'.heap.size
  nm : ∀ b, K b → E'.blk b = E.blk b ∧ E'.sz b = E.sz b ∧ (E'.gh b ↔ E.gh b)
  un : ∀ b, E'.U b → ¬ E'.gh b → (w.heap.size ≤ E'.blk b ∧ E'.blk b < w'.heap.size) ∨ ∃ c, E.U c ∧ ¬ E.gh c ∧ E'.blk b = E.blk c
  pn : ∀ r, E'.pr r → E.pr r ∨ w.heap.size ≤ r ∨ ∃ c, E.U c ∧ ¬ E.gh c ∧ r = E.blk c
  io : SameIO w w'

theorem Ext.refl (K : Nat → Prop) (E : Emb) (w : World) : Ext K E w E w := ⟨fun _ _ => rfl, fun _ h => h, fun _ h => h, Nat.le_refl _, fun _ _ => ⟨rfl, rfl, .rfl⟩, fun b hb hg => .inr ⟨b, hb, hg, rfl⟩, fun _ h => .inl h, ⟨rfl, rfl, rfl⟩⟩
theorem Ext.trans' {K K' : Nat → Prop} {E E' E'' : Emb} {w w' w'' : World} (h : Ext K E w E' w') (g : Ext K' E' w' E'' w'') (hk : ∀ b, K b → K' b) : Ext K E w E'' w'' :=
  ⟨fun r hr => (g.keep r (h.fr r hr)).trans (h.keep r hr), fun r hr => g.fr r (h.fr r hr), fun r hr => g.pr r (h.pr r hr), Nat.le_trans h.sz g.sz,
   fun b hb => ⟨(g.nm b (hk b hb)).1.trans (h.nm b hb).1, (g.nm b (hk b hb)).2.1.trans (h.nm b hb).2.1, (g.nm b (hk b hb)).2.2.trans (h.nm b hb).2.2⟩,
   fun b hb hg => by
    rcases g.un b hb hg with a | ⟨c, a1, a2, a3⟩
    · exact .inl ⟨Nat.le_trans h.sz a.1, a.2⟩
    · rw [a3]; exact (h.un c a1 a2).imp (fun b => ⟨b.1, Nat.lt_of_lt_of_le b.2 g.sz⟩) id,
   fun r hr => by
    rcases g.pn r hr with a | a | ⟨c, a1, a2, a3⟩
    · exact h.pn r a
    · exact .inr (.inl (Nat.le_trans h.sz a))
    · rw [a3]
      rcases h.un c a1 a2 with b | b
      · exact .inr (.inl b.1)
      · exact .inr (.inr b), h.io.trans g.io⟩
theorem Ext.trans {K : Nat → Prop} {E E' E'' : Emb} {w w' w'' : World} (h : Ext K E w E' w') (g : Ext K E' w' E'' w'') : Ext K E w E'' w'' := h.trans' g fun _ h => h
theorem Ext.weaken {K K' : Nat → Prop} {E E' : Emb} {w w' : World} (h : Ext K E w E' w') (hk : ∀ b, K' b → K b) : Ext K' E w E' w' :=
  ⟨h.keep, h.fr, h.pr, h.sz, fun b hb => h.nm b (hk b hb), h.un, h.pn, h.io⟩

theorem cellAt_congr {w w' : World} {r : Nat} (h : w'.heap[r]? = w.heap[r]?) (o : Nat) : cellAt w' r o = cellAt w r o := by
  simp only [cellAt, World.cell?, h]

theorem RepC.mono {w w' : World} {pr pr' : Nat → Prop} (hk : ∀ r, pr r → w'.heap[r]? = w.heap[r]?) (hp : ∀ r, pr r → pr' r) {c : CV} {v : Value} (h : RepC w pr c v) : RepC w' pr' c v := by
  induction h with
  | sc v ho => exact .sc v ho
  | ro st es cap a n c vs hn hc hcap hst hcell hrep ih =>
    refine .ro st es cap a n c vs hn hc hcap hst (fun i e he => ?_) ih
    obtain ⟨ad, h1, h2, h3, h4⟩ := hcell i e he
    exact ⟨ad, h1, h2, hp _ h3, fun k x hx => (cellAt_congr (hk _ h3) _).trans (h4 k x hx)⟩
  | rp cs p vs hs hpp hcell hrep ih =>
    exact .rp cs p vs hs (hp _ hpp) (fun k x hx => (cellAt_congr (hk _ hpp) _).trans (hcell k x hx)) ih
  | ifc t c v h ih => exact .ifc t c v ih

theorem RepM.mono {w w' : World} {pr pr' : Nat → Prop} (hk : ∀ r, pr r → w'.heap[r]? = w.heap[r]?) (hp : ∀ r, pr r → pr' r) {cs : List CV} {v : Value} (h : RepM w pr cs v) : RepM w' pr' cs v := by
  unfold RepM at h ⊢
  split at h
  · exact h.mono hk hp
  · obtain ⟨vs, e, hs, h⟩ := h
    exact ⟨vs, e, hs, fun k x hx => (h k x hx).mono hk hp⟩

theorem RepA.mono {w w' : World} {E E' : Emb} (hk : ∀ r, E.pr r → w'.heap[r]? = w.heap[r]?) (hp : ∀ r, E.pr r → E'.pr r)
    (hn : ∀ b, E.U b → E'.U b ∧ E'.blk b = E.blk b ∧ E'.sz b = E.sz b ∧ (E'.gh b ↔ E.gh b)) {x : AV} {v : Value} (h : RepA w E x v) : RepA w' E' x v := by
  induction h with
  | any v => exact .any v
  | cv c v h => exact .cv c v (h.mono hk hp)
  | ptr b st i k hU hg => obtain ⟨h1, h2, h3, h4⟩ := hn b hU; rw [← h2]; exact .ptr b st i k h1 (fun g => hg (h4.1 g))
  | own b st o n cap c hU hg hc hcap hsz => obtain ⟨h1, h2, h3, h4⟩ := hn b hU; rw [← h2]; exact .own b st o n cap c h1 (fun g => hg (h4.1 g)) hc hcap (h3 ▸ hsz)
  | own0 b st o cap a hU hg hcap => obtain ⟨h1, _, _, h4⟩ := hn b hU; exact .own0 b st o cap a h1 (h4.2 hg) hcap
  | agg cs vs hs h ih => exact .agg cs vs hs ih
  | tup cs vs hs h ih => exact .tup cs vs hs ih
  | ifc t c v h ih => exact .ifc t c v ih
  | fn f fs cs a b ha hb hf hg ih1 ih2 => exact .fn f fs cs a b ha hb ih1 ih2
  | mp b hU hg => obtain ⟨h1, h2, h3, h4⟩ := hn b hU; rw [← h2]; exact .mp b h1 (fun g => hg (h4.1 g))
  | ch b hU hg => obtain ⟨h1, h2, h3, h4⟩ := hn b hU; rw [← h2]; exact .ch b h1 (fun g => hg (h4.1 g))

theorem Plain.congr {w w' : World} {r : Nat} {cells : Array Value} (h : w'.heap[r]? = w.heap[r]?) (p : Plain w r cells) : Plain w' r cells := by
  obtain ⟨ty, lo, hi, h1, h2⟩ := p; exact ⟨ty, lo, hi, h.trans h1, h2⟩

theorem RepB.mono {w w' : World} {E E' : Emb} {b : Nat} {B : Block} (hk : ∀ r, E.pr r → w'.heap[r]? = w.heap[r]?) (hp : ∀ r, E.pr r → E'.pr r)
    (hn : ∀ b, E.U b → E'.U b ∧ E'.blk b = E.blk b ∧ E'.sz b = E.sz b ∧ (E'.gh b ↔ E.gh b)) (hU : E.U b) (hb : ¬ E.gh b → w'.heap[E.blk b]? = w.heap[E.blk b]?) (h : RepB w E b B) : RepB w' E' b B := by
  obtain ⟨_, h2, h3, h4⟩ := hn b hU
  cases B with
  | box cs =>
    obtain ⟨hg, cells, p, hs, hl, hc⟩ := h
    exact ⟨fun g => hg (h4.1 g), cells, by rw [h2]; exact p.congr (hb hg), by rw [h3]; exact hs, hl, fun k x hx => (hc k x hx).mono hk hp hn⟩
  | row st es =>
    rcases h with ⟨hg, he⟩ | ⟨hg, cells, p, hs, hl, he, hc⟩
    · exact .inl ⟨h4.2 hg, he⟩
    · exact .inr ⟨fun g => hg (h4.1 g), cells, by rw [h2]; exact p.congr (hb hg), by rw [h3]; exact hs, hl, he, fun i e k x hi hx => (hc i e k x hi hx).mono hk hp⟩
  | mp es =>
    obtain ⟨hg, ents, cl, p, hs, hc⟩ := h
    exact ⟨fun g => hg (h4.1 g), ents, cl, by rw [h2]; exact (hb hg).trans p, hs, fun k z x hx => by obtain ⟨e, e1, e2, e3⟩ := hc k z x hx; exact ⟨e, e1, e2, e3.mono hk hp⟩⟩
  | ch cap es shut =>
    obtain ⟨hg, buf, s, r, tm, p, hs, hc⟩ := h
    exact ⟨fun g => hg (h4.1 g), buf, s, r, tm, by rw [h2]; exact (hb hg).trans p, hs, fun k x hx => (hc k x hx).mono hk hp⟩

def setH (H : Nat → Option Block) (b : Nat) (B : Option Block) : Nat → Option Block := fun x => if x = b then B else H x
def setT (T : Nat → AV) (d : Option Nat) (v : AV) : Nat → AV := match d with | none => T | some d => fun x => if x = d then v else T x

theorem TInv.mono {N : Nat} {E E' : Emb} {T : Nat → AV} {a : Act} {w w' : World} (h : TInv N E T a w) (x : Ext E.U E w E' w') (hU : ∀ b, E.U b → E'.U b) (hi : ∀ r, E.pr r → E.fr r) : TInv N E' T a w' :=
  ⟨fun t => (h.tm t).mono (fun r hr => x.keep r (hi r hr)) x.pr (fun b hb => ⟨hU b hb, x.nm b hb⟩), h.sz, h.df⟩

theorem TInv.put {N : Nat} {E : Emb} {T : Nat → AV} {a : Act} {w : World} (h : TInv N E T a w) (d : Option Nat) (hd : ∀ x, d = some x → x < N) {v : AV} {u : Value} (hv : RepA w E v u) : TInv N E (setT T d v) (a.put d u) w := by
  cases d with
  | none => exact h
  | some d =>
    have hd := hd d rfl
    refine ⟨fun t => ?_, by simp [Act.put, h.sz], h.df⟩
    by_cases ht : t = d
    · subst ht
      have : (a.put (some t) u).tmps.getD t undef = u := by simp [Act.put, Array.getD_eq_getD_getElem?, h.sz, hd]
      rw [this]; simpa [setT] using hv
    · have : (a.put (some d) u).tmps.getD t undef = a.tmps.getD t undef := by
        simp [Act.put, Array.getD_eq_getD_getElem?, Array.getElem?_setIfInBounds_ne (Ne.symm ht)]
      rw [this]; simpa [setT, ht] using h.tm t

/-- a block of one's own gets new cells -/
theorem HInv.store {E : Emb} {H : Nat → Option Block} {w w' : World} {b : Nat} {B B' : Block} (h : HInv E H w) (hb : H b = some B) (hg : ¬ E.gh b) (hs : w'.heap.size = w.heap.size)
    (ho : ∀ r, r ≠ E.blk b → w'.heap[r]? = w.heap[r]?) (hio : SameIO w w') (hn : RepB w' E b B') : HInv E (setH H b (some B')) w' ∧ Ext E.U E w E w' := by
  have hfr : ∀ r, E.fr r → w'.heap[r]? = w.heap[r]? := fun r hr => ho r (fun e => (h.un b B hb).2 hg (e ▸ hr))
  refine ⟨⟨fun x X hx => ?_, fun x X hx => ?_, fun x y X Y hx hy gx gy e => ?_, h.prfr, fun r hr => hs ▸ h.frlt r hr⟩, ⟨hfr, fun _ h => h, fun _ h => h, Nat.le_of_eq hs.symm, fun _ _ => ⟨rfl, rfl, .rfl⟩, fun b hb hg => .inr ⟨b, hb, hg, rfl⟩, fun _ h => .inl h, hio⟩⟩
  · by_cases e : x = b
    · subst e; simp [setH] at hx; exact hx ▸ hn
    · simp [setH, e] at hx
      refine (h.hp x X hx).mono (fun r hr => hfr r (h.prfr r hr)) (fun _ h => h) (fun _ h => ⟨h, rfl, rfl, .rfl⟩) (h.un x X hx).1 (fun gx => ho _ fun e' => e (h.inj x b X B hx hb gx hg e'))
  · by_cases e : x = b
    · subst e; exact h.un x B hb
    · simp [setH, e] at hx; exact h.un x X hx
  · have f : ∀ x X, setH H b (some B') x = some X → ∃ X', H x = some X' := fun x X hx => by
      by_cases e : x = b
      · exact ⟨B, e ▸ hb⟩
      · simp [setH, e] at hx; exact ⟨X, hx⟩
    obtain ⟨X', hX⟩ := f x X hx
    obtain ⟨Y', hY⟩ := f y Y hy
    exact h.inj x y X' Y' hX hY gx gy e

/-- nothing is written -/
theorem HInv.same {E : Emb} {H : Nat → Option Block} {w w' : World} (h : HInv E H w) (hh : w'.heap = w.heap) (hio : SameIO w w') : HInv E H w' ∧ Ext E.U E w E w' := by
  refine ⟨⟨fun b B hb => (h.hp b B hb).mono (fun r _ => by rw [hh]) (fun _ h => h) (fun _ h => ⟨h, rfl, rfl, .rfl⟩) (h.un b B hb).1 (fun _ => by rw [hh]), h.un, h.inj, h.prfr, fun r hr => hh ▸ h.frlt r hr⟩, ⟨fun r _ => by rw [hh], fun _ h => h, fun _ h => h, by rw [hh]; exact Nat.le_refl _, fun _ _ => ⟨rfl, rfl, .rfl⟩, fun b hb hg => .inr ⟨b, hb, hg, rfl⟩, fun _ h => .inl h, hio⟩⟩

def Emb.add (E : Emb) (b r s : Nat) : Emb := { E with blk := fun x => if x = b then r else E.blk x, sz := fun x => if x = b then s else E.sz x, U := fun x => x = b ∨ E.U x, gh := fun x => x ≠ b ∧ E.gh x }

theorem Emb.add_nm {E : Emb} {b r s : Nat} (hU : ¬ E.U b) : ∀ x, E.U x → (E.add b r s).U x ∧ (E.add b r s).blk x = E.blk x ∧ (E.add b r s).sz x = E.sz x ∧ ((E.add b r s).gh x ↔ E.gh x) := by
  intro x hx
  have : x ≠ b := fun e => hU (e ▸ hx)
  exact ⟨.inr hx, by simp [Emb.add, this], by simp [Emb.add, this], by simp [Emb.add, this]⟩

/-- a new block -/
theorem HInv.alloc {E : Emb} {H : Nat → Option Block} {w w' : World} {b : Nat} {B : Block} {s : Nat} (h : HInv E H w) (hU : ¬ E.U b) (hs : w.heap.size < w'.heap.size)
    (ho : ∀ r, r < w.heap.size → w'.heap[r]? = w.heap[r]?) (hio : SameIO w w') (hn : RepB w' (E.add b w.heap.size s) b B) : HInv (E.add b w.heap.size s) (setH H b (some B)) w' ∧ Ext E.U E w (E.add b w.heap.size s) w' := by
  have hfr : ∀ r, E.fr r → w'.heap[r]? = w.heap[r]? := fun r hr => ho r (h.frlt r hr)
  have lt : ∀ x X, H x = some X → ¬ E.gh x → E.blk x < w.heap.size := fun x X hx hg => by
    have : ∃ O, w.heap[E.blk x]? = some O := by
      cases X with
      | box cs => obtain ⟨_, c, ⟨_, _, _, p, _⟩, _⟩ := h.hp x _ hx; exact ⟨_, p⟩
      | row st es =>
        rcases h.hp x _ hx with ⟨g, _⟩ | ⟨_, c, ⟨_, _, _, p, _⟩, _⟩
        · exact (hg g).elim
        · exact ⟨_, p⟩
      | mp es => obtain ⟨_, _, _, p, _⟩ := h.hp x _ hx; exact ⟨_, p⟩
      | ch cap es shut => obtain ⟨_, _, _, _, _, p, _⟩ := h.hp x _ hx; exact ⟨_, p⟩
    obtain ⟨_, e⟩ := this
    exact Nat.lt_of_not_le fun hle => by rw [Array.getElem?_eq_none hle] at e; cases e
  refine ⟨⟨fun x X hx => ?_, fun x X hx => ?_, fun x y X Y hx hy gx gy e => ?_, h.prfr, fun r hr => Nat.lt_of_lt_of_le (h.frlt r hr) (Nat.le_of_lt hs)⟩,
    ⟨hfr, fun _ h => h, fun _ h => h, Nat.le_of_lt hs, fun x hx => (Emb.add_nm hU x hx).2, fun x hx hg => by
      by_cases e : x = b
      · left; exact ⟨by simp [Emb.add, e], by simp [Emb.add, e]; exact hs⟩
      · right; exact ⟨x, hx.resolve_left e, fun g => hg ⟨e, g⟩, by simp [Emb.add, e]⟩, fun _ h => .inl h, hio⟩⟩
  · by_cases e : x = b
    · subst e; simp [setH] at hx; exact hx ▸ hn
    · simp [setH, e] at hx
      exact (h.hp x X hx).mono (fun r hr => hfr r (h.prfr r hr)) (fun _ h => h) (Emb.add_nm hU) (h.un x X hx).1 (fun gx => ho _ (lt x X hx gx))
  · by_cases e : x = b
    · subst e
      refine ⟨.inl rfl, fun _ hf => ?_⟩
      have : (E.add x w.heap.size s).blk x = w.heap.size := by simp [Emb.add]
      rw [this] at hf
      exact Nat.lt_irrefl _ (h.frlt _ hf)
    · simp [setH, e] at hx
      obtain ⟨u, f⟩ := h.un x X hx
      refine ⟨.inr u, fun gx => ?_⟩
      rw [(Emb.add_nm hU x u).2.1]; exact f fun g => gx ⟨e, g⟩
  · have key : ∀ x X, setH H b (some B) x = some X → x ≠ b → ¬ (E.add b w.heap.size s).gh x → (E.add b w.heap.size s).blk x = E.blk x ∧ E.blk x < w.heap.size ∧ H x = some X ∧ ¬ E.gh x := fun x X hx e gx => by
      simp [setH, e] at hx
      have g : ¬ E.gh x := fun g => gx ⟨e, g⟩
      exact ⟨(Emb.add_nm hU x (h.un x X hx).1).2.1, lt x X hx g, hx, g⟩
    have kb : (E.add b w.heap.size s).blk b = w.heap.size := by simp [Emb.add]
    by_cases ex : x = b <;> by_cases ey : y = b
    · exact ex.trans ey.symm
    · obtain ⟨k1, k2, _⟩ := key y Y hy ey gy; rw [ex, kb, k1] at e; omega
    · obtain ⟨k1, k2, _⟩ := key x X hx ex gx; rw [ey, kb, k1] at e; omega
    · obtain ⟨k1, _, k3, k4⟩ := key x X hx ex gx
      obtain ⟨l1, _, l3, l4⟩ := key y Y hy ey gy
      rw [k1, l1] at e
      exact h.inj x y X Y k3 l3 k4 l4 e

/-- a name is given up -/
theorem HInv.drop {E : Emb} {H : Nat → Option Block} {w : World} (h : HInv E H w) (b : Nat) : HInv E (setH H b none) w := by
  have f : ∀ x X, setH H b none x = some X → H x = some X := fun x X hx => by
    by_cases e : x = b
    · simp [setH, e] at hx
    · simpa [setH, e] using hx
  exact ⟨fun x X hx => h.hp x X (f x X hx), fun x X hx => h.un x X (f x X hx), fun x y X Y hx hy gx gy e => h.inj x y X Y (f x X hx) (f y Y hy) gx gy e, h.prfr, h.frlt⟩
end Go.Proofs.YtdjoodbidcncaaaGreatDoor.AW
