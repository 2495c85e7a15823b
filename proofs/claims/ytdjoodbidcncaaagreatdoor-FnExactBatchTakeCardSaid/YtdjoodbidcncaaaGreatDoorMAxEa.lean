/- Many workers beside goroutines that only leave: the trace's law; trees of steps; many measures at once. -/
import Derived.Test.YtdjoodbidcncaaaGreatDoorMAxCa
import Derived.Conc.CrowdTrace
import Derived.Conc.CrowdStepC2
import Derived.Conc.CrowdRun
import Derived.Conc.WgGenN3
set_option linter.unusedVariables false
set_option linter.unusedSimpArgs false
namespace Go.Proofs.YtdjoodbidcncaaaGreatDoor.AW
open Go Go.Conc Go.ConcN

/-! ### the trace -/
/-- where the places lie: 'Sh': touched plainly by nobody any more; 'Wc': the group's, among them; 'Own k': worker k's alone; 'Rd': read by all workers -/
structure Lie (Sh Wc : Loc → Prop) (Own : Nat → Loc → Prop) (Rd : Loc → Prop) : Prop where
  wc : ∀ l, Wc l → Sh l
  own : ∀ k k' l, Own k l → Own k' l → k = k'
  ownRd : ∀ k l, Own k l → ¬ Rd l
  ownSh : ∀ k l, Own k l → ¬ Sh l
  rdSh : ∀ l, Rd l → ¬ Sh l
  ownM : ∀ k l, Own k l → l.isMemory = true
  rdM : ∀ l, Rd l → l.isMemory = true
/-- j workers are started; they bear the numbers from c on -/
structure TF (Sh Wc : Loc → Prop) (Own : Nat → Loc → Prop) (Rd : Loc → Prop) (c j : Nat) (t : Trace) : Prop where
  clean : ∀ said, ¬ Race said t
  wg : ∀ i a, touchAt t i = some a → Wc a.loc → a.kind ≠ .plain
  free : ∀ i a, touchAt t i = some a → a.loc.isMemory = true → Knows t 0 i ∨ (Sh a.loc ∧ a.kind = .atomic) ∨ ∃ k, k < j ∧ t.g? i = some (c + k) ∧ (Own k a.loc ∨ (Rd a.loc ∧ a.write = false)) ∧ a.kind ≠ .atomic
  own : ∀ k, k < j → ∀ l, Own k l → Perm t (c + k) l
  rd : ∀ k, k < j → ∀ l, Rd l → PermW t (c + k) l
  ov : ∀ i g, t.g? i = some g → g ≠ 0 → (g < c ∨ c + j ≤ g) → t.counts i → ∃ q, t.g? q = some 0 ∧ HappensBefore t i q
def Op0 (Sh Wc : Loc → Prop) (Own : Nat → Loc → Prop) (Rd : Loc → Prop) (j : Nat) (x : Touch) : Prop :=
  (x.kind ≠ .plain → Wc x.loc) ∧ (x.kind = .plain → ¬ Sh x.loc ∧ (∀ k, k < j → ¬ Own k x.loc) ∧ (x.write = true → ¬ Rd x.loc))
def OpW (Wc : Loc → Prop) (Own : Nat → Loc → Prop) (Rd : Loc → Prop) (k : Nat) (x : Touch) : Prop :=
  (Wc x.loc ∧ x.kind = .atomic) ∨ ((Own k x.loc ∨ (Rd x.loc ∧ x.write = false)) ∧ x.kind = .plain)
section
variable {Sh Wc : Loc → Prop} {Own : Nat → Loc → Prop} {Rd : Loc → Prop} {c j : Nat} {t u : Trace}

theorem ov_app (h : ∀ i g, t.g? i = some g → g ≠ 0 → (g < c ∨ c + j ≤ g) → t.counts i → ∃ q, t.g? q = some 0 ∧ HappensBefore t i q) (hu : ∀ op ∈ u, op.g = 0 ∨ (c ≤ op.g ∧ op.g < c + j) ∨ op.act.touch? = none) :
    ∀ i g, (t ++ u).g? i = some g → g ≠ 0 → (g < c ∨ c + j ≤ g) → (t ++ u).counts i → ∃ q, (t ++ u).g? q = some 0 ∧ HappensBefore (t ++ u) i q := by
  intro i g hg hne hlt hc
  obtain ⟨x, hx, _⟩ := id hc
  obtain ⟨op, hop, hox⟩ := touch_of hx
  rcases getElem?_append_cases hop with ⟨hi, hop'⟩ | ⟨_, hopu⟩
  · obtain ⟨q, hq, hb⟩ := h i g (by rw [← g?_old (u := u) hi]; exact hg) hne hlt ((counts_old hi).1 hc)
    have hql : q < t.size := by
      obtain ⟨z, hz, _⟩ := Option.map_eq_some_iff.1 hq
      exact lt_size_of_getElem? hz
    exact ⟨q, by rw [g?_old hql]; exact hq, hb_app u hb⟩
  · have hgo : op.g = g := by simpa [Trace.g?, hop] using hg
    rcases hu op hopu with h0 | h0 | h0
    · exact absurd (hgo ▸ h0) hne
    · omega
    · rw [h0] at hox; cases hox
theorem free_app (h : TF Sh Wc Own Rd c j t) {i : Nat} {a : Touch} (hi : i < t.size) (ha : touchAt (t ++ u) i = some a) (hm : a.loc.isMemory = true) :
    Knows (t ++ u) 0 i ∨ (Sh a.loc ∧ a.kind = .atomic) ∨ ∃ k, k < j ∧ (t ++ u).g? i = some (c + k) ∧ (Own k a.loc ∨ (Rd a.loc ∧ a.write = false)) ∧ a.kind ≠ .atomic := by
  rw [touchAt_old hi] at ha
  rcases h.free i a ha hm with h1 | h1 | ⟨k, h1, h2, h3⟩
  · exact .inl (h1.app u)
  · exact .inr (.inl h1)
  · exact .inr (.inr ⟨k, h1, by rw [g?_old hi]; exact h2, h3⟩)
theorem TF.app0 (A : Lie Sh Wc Own Rd) (h : TF Sh Wc Own Rd c j t) (hg : ∀ op ∈ u, op.g = 0) (hu : ∀ op ∈ u, ∀ x, op.act.touch? = some x → Op0 Sh Wc Own Rd j x) : TF Sh Wc Own Rd c j (t ++ u) := by
  have np : ∀ {x : Touch}, Op0 Sh Wc Own Rd j x → ∀ k, k < j → ¬ Own k x.loc := fun {x} hx k hk' ho => by
    by_cases hk : x.kind = .plain
    · exact (hx.2 hk).2.1 k hk' ho
    · exact A.ownSh k _ ho (A.wc _ (hx.1 hk))
  have nr : ∀ {x : Touch}, Op0 Sh Wc Own Rd j x → x.write = true → ¬ Rd x.loc := fun {x} hx hw hr => by
    by_cases hk : x.kind = .plain
    · exact (hx.2 hk).2.2 hw hr
    · exact A.rdSh _ hr (A.wc _ (hx.1 hk))
  refine ⟨fun said => noRace_append (h.clean said) hg fun i a ha op hop b hb hc => ?_, fun i a ha hw => ?_, fun i a ha hm => ?_, fun k hk l hl => (h.own k hk l hl).app fun op hop b hb e => ?_, fun k hk l hl => (h.rd k hk l hl).app fun op hop b hb e hw => ?_, ov_app h.ov fun op hop => .inl (hg op hop)⟩
  · have hx := hu op hop b hb
    rcases h.free i a ha hc.2.1 with h1 | ⟨h1, h2⟩ | ⟨k, hkj, _, h3 | ⟨h3, h4⟩, _⟩
    · exact h1
    · have hbp : b.kind = .plain := by
        obtain ⟨_, _, _, hk⟩ := hc
        rw [h2] at hk
        rcases hk with z | z | ⟨_, z, _⟩
        · cases z
        · exact z
        · cases z
      exact absurd (hc.1 ▸ h1) (hx.2 hbp).1
    · exact absurd (hc.1 ▸ h3) (np hx k hkj)
    · have hw : b.write = true := hc.2.2.1.resolve_left (by simp [h4])
      exact absurd (hc.1 ▸ h3) (nr hx hw)
  · obtain ⟨x, hx, hxa⟩ := touch_of ha
    rcases getElem?_append_cases hx with ⟨_, hx'⟩ | ⟨_, hxu⟩
    · exact h.wg i a (by rw [touchAt_of hx']; exact hxa) hw
    · exact fun hp => ((hu x hxu a hxa).2 hp).1 (A.wc _ hw)
  · obtain ⟨x, hx, hxa⟩ := touch_of ha
    rcases getElem?_append_cases hx with ⟨hi, _⟩ | ⟨_, hxu⟩
    · exact free_app h hi ha hm
    · have := knows_own hx
      rw [hg x hxu] at this
      exact .inl this
  · exact absurd (e ▸ hl) (np (hu op hop b hb) k hk)
  · exact absurd (e ▸ hl) (nr (hu op hop b hb) hw)
theorem TF.appW (A : Lie Sh Wc Own Rd) (h : TF Sh Wc Own Rd c j t) {k : Nat} (hk : k < j) (hg : ∀ op ∈ u, op.g = c + k) (hu : ∀ op ∈ u, ∀ x, op.act.touch? = some x → OpW Wc Own Rd k x) : TF Sh Wc Own Rd c j (t ++ u) := by
  refine ⟨fun said => noRace_append (h.clean said) hg fun i a ha op hop b hb hc => ?_, fun i a ha hw => ?_, fun i a ha hm => ?_, fun k' hk' l hl => (h.own k' hk' l hl).app fun op hop b hb e => ?_, fun k' hk' l hl => (h.rd k' hk' l hl).app fun op hop b hb e hw => ?_, ov_app h.ov fun op hop => .inr (.inl (by rw [hg op hop]; omega))⟩
  · rcases hu op hop b hb with ⟨h1, h2⟩ | ⟨h1 | ⟨h1, h2⟩, _⟩
    · have hp : a.kind = .plain := by
        obtain ⟨_, _, _, hk⟩ := hc
        rw [h2] at hk
        rcases hk with z | z | ⟨_, _, z⟩
        · exact z
        · cases z
        · cases z
      exact absurd hp (h.wg i a ha (hc.1 ▸ h1))
    · exact h.own k hk b.loc h1 i a ha hc.1
    · exact h.rd k hk b.loc h1 i a ha hc.1 (hc.2.2.1.resolve_right (by simp [h2]))
  · obtain ⟨x, hx, hxa⟩ := touch_of ha
    rcases getElem?_append_cases hx with ⟨_, hx'⟩ | ⟨_, hxu⟩
    · exact h.wg i a (by rw [touchAt_of hx']; exact hxa) hw
    · rcases hu x hxu a hxa with ⟨_, h2⟩ | ⟨h1 | ⟨h1, _⟩, _⟩
      · rw [h2]; simp
      · exact absurd (A.wc _ hw) (A.ownSh k _ h1)
      · exact absurd (A.wc _ hw) (A.rdSh _ h1)
  · obtain ⟨x, hx, hxa⟩ := touch_of ha
    rcases getElem?_append_cases hx with ⟨hi, _⟩ | ⟨_, hxu⟩
    · exact free_app h hi ha hm
    · rcases hu x hxu a hxa with ⟨h1, h2⟩ | ⟨h1, h2⟩
      · exact .inr (.inl ⟨A.wc _ h1, h2⟩)
      · exact .inr (.inr ⟨k, hk, by simp [Trace.g?, hx, hg x hxu], h1, by rw [h2]; simp⟩)
  · rcases hu op hop b hb with ⟨h1, _⟩ | ⟨h1 | ⟨h1, _⟩, _⟩
    · exact absurd (A.wc _ (e ▸ h1)) (A.ownSh k' l hl)
    · rw [hg op hop, A.own k k' l (e ▸ h1) hl]
    · exact absurd (e ▸ h1) (A.ownRd k' l hl)
  · rcases hu op hop b hb with ⟨h1, _⟩ | ⟨h1 | ⟨_, h2⟩, _⟩
    · exact absurd (A.wc _ (e ▸ h1)) (A.rdSh l hl)
    · exact absurd hl (A.ownRd k l (e ▸ h1))
    · rw [h2] at hw; cases hw
/-- operations that touch nothing -/
theorem TF.mute (h : TF Sh Wc Own Rd c j t) {g : Nat} (hg : ∀ op ∈ u, op.g = g) (hn : ∀ op ∈ u, op.act.touch? = none) : TF Sh Wc Own Rd c j (t ++ u) := by
  refine ⟨fun said => noRace_append (h.clean said) hg fun i a _ op hop b hb _ => (by rw [hn op hop] at hb; cases hb), fun i a ha hw => ?_, fun i a ha hm => ?_, fun k hk l hl => (h.own k hk l hl).app fun op hop b hb _ => (by rw [hn op hop] at hb; cases hb), fun k hk l hl => (h.rd k hk l hl).app fun op hop b hb _ _ => (by rw [hn op hop] at hb; cases hb), ov_app h.ov fun op hop => .inr (.inr (hn op hop))⟩
  all_goals
    obtain ⟨x, hx, hxa⟩ := touch_of ha
    rcases getElem?_append_cases hx with ⟨hi, hx'⟩ | ⟨_, hxu⟩
  · exact h.wg i a (by rw [touchAt_of hx']; exact hxa) hw
  · rw [hn x hxu] at hxa; cases hxa
  · exact free_app h hi ha hm
  · rw [hn x hxu] at hxa; cases hxa
/-- a go statement -/
theorem TF.fork (A : Lie Sh Wc Own Rd) (h : TF Sh Wc Own Rd c j t) {x y : MemOp} (hx : x.g = 0 ∧ x.act = .go (c + j)) (hy : y.g = c + j ∧ y.act = .start) (h0 : Deaf t 0 = 0) (hk : Deaf t (c + j) = 0) : TF Sh Wc Own Rd c (j + 1) (t ++ #[x, y]) := by
  have n1 : ∀ op ∈ #[x], op.act.touch? = none := fun op hop => by simp at hop; subst hop; rw [hx.2]; rfl
  have n2 : ∀ op ∈ #[y], op.act.touch? = none := fun op hop => by simp at hop; subst hop; rw [hy.2]; rfl
  have e : t ++ #[x, y] = (t ++ #[x]) ++ #[y] := by rw [Array.append_assoc]; rfl
  have hb : TF Sh Wc Own Rd c j (t ++ #[x, y]) := by
    rw [e]
    exact (h.mute (g := 0) (by simp [hx.1]) n1).mute (g := c + j) (by simp [hy.1]) n2
  have old : ∀ {i : Nat} {a : Touch}, touchAt (t ++ #[x, y]) i = some a → i < t.size ∧ touchAt t i = some a := fun {i a} ha => by
    obtain ⟨z, hz, hza⟩ := touch_of ha
    rcases getElem?_append_cases hz with ⟨hi, hz'⟩ | ⟨_, hzu⟩
    · exact ⟨hi, by rw [touchAt_of hz']; exact hza⟩
    · simp at hzu
      rcases hzu with rfl | rfl
      · rw [hx.2] at hza; cases hza
      · rw [hy.2] at hza; cases hza
  refine ⟨hb.clean, hb.wg, fun i a ha hm => (hb.free i a ha hm).imp id (.imp id fun ⟨k, h1, h2⟩ => ⟨k, by omega, h2⟩), fun k hk' l hl => ?_, fun k hk' l hl => ?_, fun i g hg hne hlt => hb.ov i g hg hne (by omega)⟩
  · by_cases e : k = j
    · subst e
      intro i a ha hal
      obtain ⟨_, ha'⟩ := old ha
      rcases h.free i a ha' (hal ▸ A.ownM _ _ hl) with h1 | ⟨h1, _⟩ | ⟨k', h1, _, h3 | ⟨h3, _⟩, _⟩
      · exact fork_knows hx hy h0 hk h1
      · exact absurd (hal ▸ h1) (A.ownSh _ _ hl)
      · have := A.own k' k l (hal ▸ h3) hl; omega
      · exact absurd (hal ▸ h3) (A.ownRd _ _ hl)
    · exact hb.own k (by omega) l hl
  · by_cases e : k = j
    · subst e
      intro i a ha hal hw
      obtain ⟨_, ha'⟩ := old ha
      rcases h.free i a ha' (hal ▸ A.rdM _ hl) with h1 | ⟨h1, _⟩ | ⟨k', h1, _, h3 | ⟨_, h3⟩, _⟩
      · exact fork_knows hx hy h0 hk h1
      · exact absurd (hal ▸ h1) (A.rdSh _ hl)
      · exact absurd hl (A.ownRd k' l (hal ▸ h3))
      · rw [h3] at hw; cases hw
    · exact hb.rd k (by omega) l hl
/-- from a frame -/
theorem TF.of_past (A : Lie Sh Wc Own Rd) {Sh₀ : Loc → Prop} {B : Nat} (h : Past Sh₀ B t) (h0 : ∀ l, Sh₀ l → Sh l) (hf : ∀ l, Wc l → ¬ l.low B) : TF Sh Wc Own Rd c 0 t := by
  refine ⟨h.clean, fun i a ha hw => ?_, fun i a ha hm => (h.known i a ha hm).imp id fun ⟨h1, h2⟩ => .inl ⟨h0 _ h1, h2⟩, fun k hk => absurd hk (by omega), fun k hk => absurd hk (by omega), fun i g hg hne _ hc => h.over i g hg hne hc⟩
  obtain ⟨x, hx, hxa⟩ := touch_of ha
  have hl := h.seen x (Array.mem_of_getElem? hx)
  refine absurd ?_ (hf _ hw)
  obtain ⟨_, _, _, act⟩ := x
  cases act with
  | access e => simp only [MemAct.touch?, Option.some.injEq] at hxa; subst hxa; exact hl
  | mark m => cases m <;> simp only [MemAct.touch?, Option.some.injEq] at hxa <;> first | (subst hxa; exact hl) | cases hxa
  | _ => simp [MemAct.touch?] at hxa
/-- goroutine 0 has said 'acquire' behind every worker's release -/
theorem TF.join {ad : Addr} {B : Nat} (h : TF Sh Wc Own Rd c j t) (hn : NoRelease ad t) (h0 : Deaf t 0 = 0) (rel : ∀ k, k < j → ∃ r, RelBy ad t (c + k) r) (seen : ∀ op ∈ t, op.act.low B) (hB : ad.block < B)
    {x : MemOp} (hx : x.g = 0 ∧ x.act = .mark (.acquire ad)) : Past Sh B (t ++ #[x]) := by
  have hxp : (t ++ #[x])[t.size]? = some x := by simp
  have nt : ∀ op ∈ #[x], op.act.touch? = none := fun op hop => by simp at hop; subst hop; rw [hx.2]; rfl
  have hb : TF Sh Wc Own Rd c j (t ++ #[x]) := h.mute (g := 0) (by simp [hx.1]) nt
  have hq : (t ++ #[x]).heard t.size := ⟨0, by simp [Trace.g?, hx.1], by rw [deaf_old (Nat.le_refl _)]; exact h0⟩
  have hqa : (t ++ #[x]).act? t.size = some (.mark (.acquire ad)) := by rw [act?_of hxp, hx.2]
  have hqg : (t ++ #[x]).g? t.size = some 0 := by simp [Trace.g?, hx.1]
  have hno : NoRelease ad (t ++ #[x]) := hn.app fun op hop => by simp at hop; subst hop; rw [hx.2]; simp
  -- what counts of a worker's is behind its release
  have key : ∀ k, k < j → ∀ i, (t ++ #[x]).g? i = some (c + k) → (t ++ #[x]).counts i → i < t.size → HappensBefore (t ++ #[x]) i t.size := fun k hk i hgi hc hi => by
    obtain ⟨r, hr⟩ := rel k hk
    have hrl : r < t.size := lt_of_act? hr.act
    have hr1 : (t ++ #[x]).act? r = some (.mark (.releaseMerge ad)) := by rw [act?_old hrl]; exact hr.act
    have edge : HappensBefore (t ++ #[x]) r t.size := .single (.inr ⟨.marked hrl (.inr hr1) hqa (fun z _ _ => hno z), (heard_old hrl).2 hr.heard, hq⟩)
    have hir : i ≤ r := Nat.le_of_not_lt fun hlt => hr.after i hlt (by rw [← g?_old (u := #[x]) hi]; exact hgi) ((counts_old hi).1 hc)
    rcases Nat.lt_or_eq_of_le hir with hlt | e
    · exact Relation.TransGen.trans (.single (.inl ⟨hlt, c + k, hgi, by rw [g?_old hrl]; exact hr.g⟩)) edge
    · subst e
      exact edge
  refine ⟨hb.clean, fun i a ha hm => ?_, fun i g hg hne hc => ?_, ?_, fun op hop => ?_⟩
  · rcases hb.free i a ha hm with h1 | h1 | ⟨k, h1, h2, h3, h4⟩
    · exact .inl h1
    · exact .inr h1
    · have hi : i < t.size := by
        obtain ⟨z, hz, hza⟩ := touch_of ha
        rcases getElem?_append_cases hz with ⟨hi, _⟩ | ⟨_, hzu⟩
        · exact hi
        · rw [nt z hzu] at hza; cases hza
      exact .inl ⟨t.size, x, hxp, hx.1, .inr (key k h1 i h2 ⟨a, ha, hm, .inl h4⟩ hi)⟩
  · by_cases hlt : g < c ∨ c + j ≤ g
    · exact hb.ov i g hg hne hlt hc
    · have hi : i < t.size := by
        obtain ⟨a, ha, _⟩ := id hc
        obtain ⟨z, hz, hza⟩ := touch_of ha
        rcases getElem?_append_cases hz with ⟨hi, _⟩ | ⟨_, hzu⟩
        · exact hi
        · rw [nt z hzu] at hza; cases hza
      exact ⟨t.size, hqg, key (g - c) (by omega) i (by rw [show c + (g - c) = g by omega]; exact hg) hc hi⟩
  · have e : #[x] = MemOp.ofEvents 0 x.fn x.pos #[Go.ConcR.mk (.acquire ad)] := by
      rw [ofEvents_eq]
      obtain ⟨g, fn, pos, act⟩ := x
      simp only at hx
      obtain ⟨rfl, rfl⟩ := hx
      simp [ConcR.ofEvent_mk]
    rw [e, Deaf_own, h0]
    exact deafBehind_still (by simp [Go.ConcR.mk]) 0
  · rcases Array.mem_append.1 hop with h1 | h1
    · exact seen op h1
    · simp at h1; subst h1; rw [hx.2]; exact hB
end

/-! ### trees of steps -/
inductive Tr : Type
  | leaf
  | node (f : World → Tr)
def Tr.lt (a b : Tr) : Prop := ∃ f w, b = .node f ∧ a = f w
theorem Tr.wf : WellFounded Tr.lt := ⟨fun t => by
  induction t with
  | leaf => exact ⟨_, fun y ⟨f, w, e, _⟩ => by cases e⟩
  | node f ih => exact ⟨_, fun y ⟨g, w, e, h⟩ => by cases e; exact h ▸ ih w⟩⟩
def chain : Nat → Tr
  | 0 => .leaf
  | n + 1 => .node fun _ => chain n
/-- a goroutine other than 0 comes to its stop, whatever the others do by R -/
def WT (P : Program) (R : World → World → Prop) (D : World → World → Array Event → Prop) (Stop : Goroutine → World → Prop) : Tr → Goroutine → World → Prop
  | .leaf, g, w => ∀ w₁, R w w₁ → Stop g w₁
  | .node f, g, w => g.status = .running ∧ ∀ w₁, R w w₁ → ∃ g' w' es, stepG P false g w₁ = .go g' w' es ∧ D w₁ w' es ∧ WT P R D Stop (f w₁) g' w'
section
variable {P : Program} {R : World → World → Prop} {D : World → World → Array Event → Prop} {Stop : Goroutine → World → Prop}
theorem WT.rely (tr : ∀ a b c, R a b → R b c → R a c) {t : Tr} {g : Goroutine} {w w₁ : World} (h : WT P R D Stop t g w) (hr : R w w₁) : WT P R D Stop t g w₁ := by
  cases t with
  | leaf => exact fun w₂ h₂ => h w₂ (tr _ _ _ hr h₂)
  | node f => exact ⟨h.1, fun w₂ h₂ => h.2 w₂ (tr _ _ _ hr h₂)⟩
theorem WT.running (hs : ∀ g w, Stop g w → g.status = .running) (rf : ∀ w, R w w) {t : Tr} {g : Goroutine} {w : World} (h : WT P R D Stop t g w) : g.status = .running := by
  cases t with
  | leaf => exact hs g w (h w (rf w))
  | node f => exact h.1
open Classical in
theorem WT.step {g : Goroutine} {w : World} (hrun : g.status = .running) (h : ∀ w₁, R w w₁ → ∃ g' w' es, stepG P false g w₁ = .go g' w' es ∧ D w₁ w' es ∧ ∃ t, WT P R D Stop t g' w') : ∃ t, WT P R D Stop t g w := by
  have key : ∀ w₁, ∃ t, R w w₁ → ∃ g' w' es, stepG P false g w₁ = .go g' w' es ∧ D w₁ w' es ∧ WT P R D Stop t g' w' := fun w₁ => by
    by_cases hr : R w w₁
    · obtain ⟨g', w', es, h1, h2, t, h3⟩ := h w₁ hr
      exact ⟨t, fun _ => ⟨g', w', es, h1, h2, h3⟩⟩
    · exact ⟨.leaf, fun x => absurd x hr⟩
  exact ⟨.node fun w₁ => (key w₁).choose, hrun, fun w₁ hr => (key w₁).choose_spec hr⟩
theorem WT.stop {g : Goroutine} {w : World} (h : ∀ w₁, R w w₁ → Stop g w₁) : ∃ t, WT P R D Stop t g w := ⟨.leaf, h⟩
theorem WT.of_goes (rf : ∀ w, R w w) : ∀ {n : Nat} {g : Goroutine} {w : World}, Goes P false R D Stop n g w → ∃ t, WT P R D Stop t g w
  | 0, g, w, h => WT.stop h
  | n + 1, g, w, h => by
    rcases h with h | ⟨hr, h⟩
    · exact WT.stop h
    · refine WT.step hr fun w₁ h₁ => ?_
      have := h w₁ h₁
      cases hs : stepG P false g w₁ <;> rw [hs] at this <;> simp only [GStep.goes] at this
      obtain ⟨hd, hg⟩ := this
      exact ⟨_, _, _, rfl, hd, WT.of_goes rf hg⟩
theorem WT.mono {R' : World → World → Prop} {D' : World → World → Array Event → Prop} (hR : ∀ a b, R' a b → R a b) (hD : ∀ a b es, D a b es → D' a b es) : ∀ {t : Tr} {g : Goroutine} {w : World}, WT P R D Stop t g w → WT P R' D' Stop t g w
  | .leaf, _, _, h => fun w₁ h₁ => h w₁ (hR _ _ h₁)
  | .node f, _, _, h => ⟨h.1, fun w₁ h₁ => by obtain ⟨g', w', es, h1, h2, h3⟩ := h.2 w₁ (hR _ _ h₁); exact ⟨g', w', es, h1, hD _ _ _ h2, WT.mono hR hD h3⟩⟩
end

/-! ### many measures at once -/
abbrev Ms : Type := Nat × Tr
def Ms.lt : Ms → Ms → Prop := Prod.Lex (· < ·) Tr.lt
theorem Ms.wf : WellFounded Ms.lt := (Prod.lex Nat.lt_wfRel ⟨Tr.lt, Tr.wf⟩).wf
def MsL (N : Nat) (D' D : Nat → Ms) : Prop := ∃ i, i < N ∧ Ms.lt (D' i) (D i) ∧ ∀ k, k ≠ i → D' k = D k
theorem msL_acc : ∀ (N : Nat) (D : Nat → Ms), Acc (MsL N) D
  | 0, D => ⟨_, fun y ⟨i, h, _⟩ => by omega⟩
  | N + 1, D => by
    have key : ∀ x, ∀ D, D N = x → Acc (MsL (N + 1)) D := by
      intro x
      induction x using Ms.wf.induction with
      | _ x ih1 =>
        intro D
        induction msL_acc N D with
        | intro D _ ih2 =>
          intro hD
          refine ⟨_, fun D' ⟨i, hi, hlt, hs⟩ => ?_⟩
          by_cases e : i = N
          · subst e; exact ih1 (D' i) (hD ▸ hlt) D' rfl
          · exact ih2 D' ⟨i, by omega, hlt, hs⟩ (by rw [hs N (Ne.symm e), hD])
    exact key _ D rfl
end Go.Proofs.YtdjoodbidcncaaaGreatDoor.AW

/- Many workers beside goroutines that only leave: where everybody stands. -/
namespace Go.Proofs.YtdjoodbidcncaaaGreatDoor.AW
open Go Go.Conc Go.ConcN
open Go.ConcR (KK wgBlock WgAt stA smA rd wr mk Payload Aside2 DC0 Bk g_of_ofEvents)

/-- what stays the same through a phase -/
structure Ph where
  ty : TypeId
  Wg : Nat
  C : Nat
  n : Nat
  c : Nat
  Sh : Loc → Prop
  Rd : Loc → Prop
  val : Nat → Value
  Lw : Nat → Nat
def Ph.Wc (p : Ph) : Loc → Prop := fun l => ∃ a, l = .cell a ∧ a.block = p.Wg
def Ph.Own (p : Ph) (k : Nat) : Loc → Prop := fun l => l = .cell ⟨p.C, k, none⟩ ∨ l = .cell ⟨p.Lw k, 0, none⟩
structure Ph.Ok (p : Ph) : Prop where
  lie : Lie p.Sh p.Wc p.Own p.Rd
  mono : ∀ a b, a ≤ b → p.Lw a ≤ p.Lw b
  hW : p.Wg < p.Lw 0
  hC : p.C < p.Lw 0
  hCW : p.C ≠ p.Wg
  hn : p.n < 2147483648
  pos : 0 < p.c
/-- an event of a worker's -/
def EvK (p : Ph) (k : Nat) (w : World) (e : Event) : Prop := (∀ x, (MemAct.ofEvent e).touch? = some x → OpW p.Wc p.Own p.Rd k x) ∧ e.loc ≠ .mark (.release (stA p.Wg)) ∧ (MemAct.ofEvent e).low w.heap.size
def EvZ (p : Ph) (j : Nat) (w : World) (e : Event) : Prop := (∀ x, (MemAct.ofEvent e).touch? = some x → Op0 p.Sh p.Wc p.Own p.Rd j x) ∧ e.loc ≠ .mark (.release (stA p.Wg)) ∧ (MemAct.ofEvent e).low w.heap.size
variable [Payload]
abbrev RWk (p : Ph) (k : Nat) : World → World → Prop := RW p.ty p.Wg p.C p.n (p.Lw (k + 1)) k
/-- what a worker does while it works -/
def DWk (p : Ph) (k : Nat) (w w' : World) (es : Array Event) : Prop := AsideCell p.C p.n k w w' ∧ ∀ e ∈ es, EvK p k w' e ∧ e.loc ≠ .mark .disable ∧ e.loc ≠ .mark .enable

section
variable (P : Program) (p : Ph)
inductive WS (k : Nat) : Nat → Tr → Nat → Goroutine → World → Prop
  | r0 {t : Tr} {g : Goroutine} {w : World} : WT P (RWk p k) (DWk p k) (AtR0 P p.ty p.Wg p.C p.n (p.Lw (k + 1)) (k + 1) (p.val k)) t g w → WS k 7 t 0 g w
  | k1 {t : Tr} {g : Goroutine} {w : World} : WT P (RWk p k) DC0 (AtK1 P p.ty p.Wg p.C p.n (p.Lw (k + 1)) (k + 1)) t g w → WS k 6 t 0 g w
  | d1 {t : Tr} {g : Goroutine} {w : World} : WT P (RWk p k) DC0 (AtD1 P p.ty p.Wg p.C p.n (p.Lw (k + 1)) (k + 1)) t g w → WS k 5 t 1 g w
  | d2 {t : Tr} {g : Goroutine} {w : World} : WT P (RWk p k) DC0 (AtD2 P p.ty p.Wg p.C p.n (p.Lw (k + 1)) (k + 1)) t g w → WS k 4 t 1 g w
  | d3 {t : Tr} {g : Goroutine} {w : World} : WT P (RWk p k) DC0 (AtD3 P p.ty p.Wg p.C p.n (p.Lw (k + 1)) (k + 1)) t g w → WS k 3 t 1 g w
  | d4 {t : Tr} {g : Goroutine} {w : World} : WT P (RWk p k) DC0 (AtD4 P p.ty p.Wg) t g w → WS k 2 t 1 g w
  | quit {q d : Nat} {g : Goroutine} {w : World} : QuitsD P q d g → WS k 1 (chain q) d g w

structure Cfg (j : Nat) (gs : Array Goroutine) (w : World) (T : Trace) (D : Nat → WD) (M : Nat → Ms) : Prop where
  size : gs.size = p.c + j
  old : ∀ i g, 0 < i → i < p.c → gs[i]? = some g → ∃ q, M i = (1, chain q) ∧ QuitsD P q (Deaf T i) g
  wk : ∀ k, k < j → ∃ g t, gs[p.c + k]? = some g ∧ WS P p k (D k).stage t (Deaf T (p.c + k)) g w ∧ M (p.c + k) = ((D k).stage, t)
  above : ∀ i, p.c + j ≤ i → Deaf T i = 0
  tf : TF p.Sh p.Wc p.Own p.Rd p.c j T
  norel : NoRelease (stA p.Wg) T
  rel : ∀ k, k < j → (D k).stage ≤ 6 → ∃ r, RelBy (stA p.Wg) T (p.c + k) r
  has : ∀ k, k < j → (D k).stage ≤ 6 → Has p.C k (p.val k) w
  pay : PayAt p.C p.n w
  seen : ∀ op ∈ T, op.act.low w.heap.size
end

section
variable {P : Program} {p : Ph}
theorem RWk.tr {k : Nat} (a b c : World) (h : RWk p k a b) (h' : RWk p k b c) : RWk p k a c := h.trans h'
theorem WS.rely {k s d : Nat} {t : Tr} {g : Goroutine} {w w₁ : World} (h : WS P p k s t d g w) (hr : RWk p k w w₁) : WS P p k s t d g w₁ := by
  cases h with
  | r0 h => exact .r0 (h.rely RWk.tr hr)
  | k1 h => exact .k1 (h.rely RWk.tr hr)
  | d1 h => exact .d1 (h.rely RWk.tr hr)
  | d2 h => exact .d2 (h.rely RWk.tr hr)
  | d3 h => exact .d3 (h.rely RWk.tr hr)
  | d4 h => exact .d4 (h.rely RWk.tr hr)
  | quit h => exact .quit h
theorem WS.status {k s d : Nat} {t : Tr} {g : Goroutine} {w : World} (h : WS P p k s t d g w) : g.status = .running ∨ g.status = .finished := by
  cases h with
  | r0 h => exact .inl (h.running (fun _ _ x => x.1) RW.refl)
  | k1 h => exact .inl (h.running (fun _ _ x => x.1) RW.refl)
  | d1 h => exact .inl (h.running (fun _ _ x => x.1) RW.refl)
  | d2 h => exact .inl (h.running (fun _ _ x => x.1) RW.refl)
  | d3 h => exact .inl (h.running (fun _ _ x => x.1) RW.refl)
  | d4 h => exact .inl (h.running (fun _ _ x => x.1) RW.refl)
  | quit h => exact h.status
theorem WS.run_of {k s d : Nat} {t : Tr} {g : Goroutine} {w : World} (h : WS P p k s t d g w) (hs : s ≠ 1) : g.status = .running := by
  cases h with
  | r0 h => exact h.running (fun _ _ x => x.1) RW.refl
  | k1 h => exact h.running (fun _ _ x => x.1) RW.refl
  | d1 h => exact h.running (fun _ _ x => x.1) RW.refl
  | d2 h => exact h.running (fun _ _ x => x.1) RW.refl
  | d3 h => exact h.running (fun _ _ x => x.1) RW.refl
  | d4 h => exact h.running (fun _ _ x => x.1) RW.refl
  | quit h => exact absurd rfl hs
theorem WS.woken {k s d : Nat} {t : Tr} {g : Goroutine} {w : World} (h : WS P p k s t d g w) (a a' : Goroutine) (w' : World) : woken P a a' w' g = g := by
  unfold Go.Conc.woken
  split
  · exact again_running _ h.status
  · rfl

theorem WS.quits {k s d : Nat} {t : Tr} {g : Goroutine} {w : World} (h : WS P p k s t d g w) (hs : s = 1) : ∃ q, QuitsD P q d g := by
  cases h <;> first | (exact absurd hs (by decide)) | exact ⟨_, by assumption⟩

variable {j : Nat} {gs : Array Goroutine} {w w' : World} {T u : Trace} {D : Nat → WD} {M : Nat → Ms}
theorem seen_low {w w' : World} (h : ∀ op ∈ T, op.act.low w.heap.size) (hw : w.heap.size ≤ w'.heap.size) (hu : ∀ op ∈ u, op.act.low w'.heap.size) : ∀ op ∈ T ++ u, op.act.low w'.heap.size := by
  have _pl := (inferInstance : Payload)
  exact fun op hop => (Array.mem_append.1 hop).elim (fun h1 => MemAct.low_mono hw (h op h1)) (hu op)
/-- the world alone is turned, by a draw -/
theorem Cfg.at (h : Cfg P p j gs w T D M) (d : Nat) : Cfg P p j gs (w.at d) T D M :=
  ⟨h.size, h.old, fun k hk => by obtain ⟨g, t, h1, h2, h3⟩ := h.wk k hk; exact ⟨g, t, h1, h2.rely (RW.at w d), h3⟩, h.above, h.tf, h.norel, h.rel, h.has, h.pay, h.seen⟩
/-- an ordinary step of goroutine 0's -/
theorem Cfg.own0 (O : p.Ok) (h : Cfg P p j gs w T D M) {a a' : Goroutine} {fn : FuncId} {pos : String} {es : Array Event} (hrw : ∀ k, k < j → RWk p k w w') (hes : ∀ e ∈ es, EvZ p j w' e) (hsz : w.heap.size ≤ w'.heap.size) (hpay : PayAt p.C p.n w') :
    Cfg P p j ((gs.map (woken P a a' w')).setIfInBounds 0 a') w' (T ++ MemOp.ofEvents 0 fn pos es) D M := by
  have hp := O.pos
  have dz : ∀ i, i ≠ 0 → Deaf (T ++ MemOp.ofEvents 0 fn pos es) i = Deaf T i := fun i hi => Deaf_other T (Ne.symm hi) _ g_of_ofEvents
  refine ⟨by simp [h.size], fun i g h1 h2 hg => ?_, fun k hk => ?_, fun i hi => by rw [dz i (by omega)]; exact h.above i hi, h.tf.app0 O.lie (fun op hop => by obtain ⟨e, _, rfl⟩ := Go.Conc.mem_ofEvents hop; rfl) (fun op hop x hx => by obtain ⟨e, he, rfl⟩ := Go.Conc.mem_ofEvents hop; exact (hes e he).1 x hx),
    h.norel.app (norel_of fun e he => (hes e he).2.1), fun k hk hs => ?_, fun k hk hs => (hrw k hk).cell.trans (h.has k hk hs), hpay,
    seen_low h.seen hsz fun op hop => by obtain ⟨e, he, rfl⟩ := Go.Conc.mem_ofEvents hop; exact (hes e he).2.2⟩
  · rw [Array.getElem?_setIfInBounds_ne (by omega), Array.getElem?_map] at hg
    obtain ⟨y, hy, rfl⟩ := Option.map_eq_some_iff.1 hg
    obtain ⟨q, hq1, hq2⟩ := h.old i y h1 h2 hy
    exact ⟨q, hq1, by rw [woken_quitsD hq2, dz i (by omega)]; exact hq2⟩
  · obtain ⟨g, t, h1, h2, h3⟩ := h.wk k hk
    refine ⟨g, t, ?_, by rw [dz _ (by omega)]; exact h2.rely (hrw k hk), h3⟩
    rw [Array.getElem?_setIfInBounds_ne (by omega), Array.getElem?_map, h1]
    simp [h2.woken]
  · obtain ⟨r, hr⟩ := h.rel k hk hs
    exact ⟨r, hr.appOther g_of_ofEvents (by omega)⟩
end
end Go.Proofs.YtdjoodbidcncaaaGreatDoor.AW

/- Many workers beside goroutines that only leave: whatever another one does. -/
namespace Go.Proofs.YtdjoodbidcncaaaGreatDoor.AW
open Go Go.Conc Go.ConcN
open Go.ConcR (KK wgBlock WgAt stA smA rd wr mk Payload Aside2 DC0 Bk g_of_ofEvents ofEvent_loc_mark bk_of_mute)
variable [Payload]
section
variable {P : Program} {p : Ph} {j : Nat} {gs : Array Goroutine} {w w' : World} {T : Trace} {D : Nat → WD} {M : Nat → Ms}

theorem wg_lt {ty Wg : Nat} {st sm : Int} (h : WgAt ty Wg w st sm) : Wg < w.heap.size := Nat.lt_of_not_le fun hle => by
  have _pl := (inferInstance : Payload)
  unfold WgAt at h; rw [Array.getElem?_eq_none hle] at h; cases h
theorem bk_evK {k : Nat} (hW : p.Wg < w.heap.size) {e : Event} (h : Bk p.Wg e) : EvK p k w e := by
  have _pl := (inferInstance : Payload)
  refine ⟨fun x hx => ?_, norel_of_Bk (es := #[e]) (by simpa using h) e (by simp), ?_⟩
  · rcases h with h | h | ⟨a, wr, rfl, ha⟩
    · rw [ofEvent_loc_mark h] at hx; cases hx
    · rw [ofEvent_loc_mark h] at hx; cases hx
    · simp only [ofEvent_cell0, MemAct.touch?, Option.some.injEq] at hx
      subst hx
      exact .inl ⟨⟨a, rfl, ha⟩, rfl⟩
  · rcases h with h | h | ⟨a, wr, rfl, ha⟩
    · rw [ofEvent_loc_mark h]; trivial
    · rw [ofEvent_loc_mark h]; trivial
    · show a.block < _; omega
theorem bk_evZ (O : p.Ok) (hW : p.Wg < w.heap.size) {e : Event} (h : Bk p.Wg e) : EvZ p j w e := by
  obtain ⟨h1, h2, h3⟩ := bk_evK (p := p) (k := 0) hW h
  refine ⟨fun x hx => ?_, h2, h3⟩
  rcases h with h | h | ⟨a, wr, rfl, ha⟩
  · rw [ofEvent_loc_mark h] at hx; cases hx
  · rw [ofEvent_loc_mark h] at hx; cases hx
  · simp only [ofEvent_cell0, MemAct.touch?, Option.some.injEq] at hx
    subst hx
    exact ⟨fun _ => ⟨a, rfl, ha⟩, fun e => by cases e⟩

/-- a step of worker k's -/
theorem Cfg.stepW (O : p.Ok) (h : Cfg P p j gs w T D M) {k : Nat} (hk : k < j) {g g' : Goroutine} {es : Array Event} {fn : FuncId} {pos : String} {s' dd' : Nat} {t' : Tr}
    (hrw : ∀ k', k' < j → k' ≠ k → RWk p k' w w') (hs' : WS P p k s' t' dd' g' w') (hdd : deafBehind (Deaf T (p.c + k)) es = dd') (hes : ∀ e ∈ es, EvK p k w' e) (hsz : w'.heap.size = w.heap.size)
    (hrel : s' ≤ 6 → ∃ r, RelBy (stA p.Wg) (T ++ MemOp.ofEvents (p.c + k) fn pos es) (p.c + k) r) (hhas : s' ≤ 6 → Has p.C k (p.val k) w') (hpay : PayAt p.C p.n w') :
    Cfg P p j ((gs.map (woken P g g' w')).setIfInBounds (p.c + k) g') w' (T ++ MemOp.ofEvents (p.c + k) fn pos es) (upd D k ⟨s', 0, 0⟩) (upd M (p.c + k) (s', t')) := by
  have hp := O.pos
  have dz : ∀ i, i ≠ p.c + k → Deaf (T ++ MemOp.ofEvents (p.c + k) fn pos es) i = Deaf T i := fun i hi => Deaf_other T (Ne.symm hi) _ g_of_ofEvents
  have hs : gs.size = p.c + j := h.size
  refine ⟨by simp [h.size], fun i x h1 h2 hg => ?_, fun k' hk' => ?_, fun i hi => by rw [dz i (by omega)]; exact h.above i hi, h.tf.appW O.lie hk (fun op hop => by obtain ⟨e, _, rfl⟩ := Go.Conc.mem_ofEvents hop; rfl) (fun op hop x hx => by obtain ⟨e, he, rfl⟩ := Go.Conc.mem_ofEvents hop; exact (hes e he).1 x hx),
    h.norel.app (norel_of fun e he => (hes e he).2.1), fun k' hk' hst => ?_, fun k' hk' hst => ?_, hpay,
    seen_low h.seen (Nat.le_of_eq hsz.symm) fun op hop => by obtain ⟨e, he, rfl⟩ := Go.Conc.mem_ofEvents hop; exact (hes e he).2.2⟩
  · rw [Array.getElem?_setIfInBounds_ne (by omega), Array.getElem?_map] at hg
    obtain ⟨y, hy, rfl⟩ := Option.map_eq_some_iff.1 hg
    obtain ⟨q, hq1, hq2⟩ := h.old i y h1 h2 hy
    exact ⟨q, by rw [upd_ne M _ (by omega)]; exact hq1, by rw [woken_quitsD hq2, dz i (by omega)]; exact hq2⟩
  · by_cases e : k' = k
    · subst e
      refine ⟨g', t', Array.getElem?_setIfInBounds_self_of_lt (by simp [hs]; omega), ?_, by rw [upd_same, upd_same]⟩
      rw [upd_same, Deaf_own, hdd]
      exact hs'
    · obtain ⟨x, t, h1, h2, h3⟩ := h.wk k' hk'
      refine ⟨x, t, ?_, ?_, ?_⟩
      · rw [Array.getElem?_setIfInBounds_ne (by omega), Array.getElem?_map, h1]
        simp [h2.woken]
      · rw [upd_ne D _ e, dz _ (by omega)]; exact h2.rely (hrw k' hk' e)
      · rw [upd_ne D _ e, upd_ne M _ (by omega)]; exact h3
  · by_cases e : k' = k
    · subst e; rw [upd_same] at hst; exact hrel hst
    · rw [upd_ne D _ e] at hst
      obtain ⟨r, hr⟩ := h.rel k' hk' hst
      exact ⟨r, hr.appOther g_of_ofEvents (by omega)⟩
  · by_cases e : k' = k
    · subst e; rw [upd_same] at hst; exact hhas hst
    · rw [upd_ne D _ e] at hst
      exact (hrw k' hk' e).cell.trans (h.has k' hk' hst)
/-- a slip of an old leaver's -/
theorem Cfg.slip (O : p.Ok) (h : Cfg P p j gs w T D M) {i : Nat} (h1 : 0 < i) (h2 : i < p.c) {g g' : Goroutine} {es : Array Event} {fn : FuncId} {pos : String} {q : Nat} (hes : ∀ e ∈ es, Event.mute e = true) (hq : QuitsD P q (deafBehind (Deaf T i) es) g') :
    Cfg P p j ((gs.map (woken P g g' w)).setIfInBounds i g') w (T ++ MemOp.ofEvents i fn pos es) D (upd M i (1, chain q)) := by
  have dz : ∀ x, x ≠ i → Deaf (T ++ MemOp.ofEvents i fn pos es) x = Deaf T x := fun x hx => Deaf_other T (Ne.symm hx) _ g_of_ofEvents
  have hs : gs.size = p.c + j := h.size
  have hbk : ∀ e ∈ es, Bk p.Wg e := fun e he => bk_of_mute (hes e he)
  have hno : ∀ e ∈ es, (MemAct.ofEvent e).touch? = none := fun e he => touch_mute (hes e he)
  refine ⟨by simp [h.size], fun x y g1 g2 hg => ?_, fun k hk => ?_, fun x hx => by rw [dz x (by omega)]; exact h.above x hx, h.tf.mute (g := i) (fun op hop => by obtain ⟨e, _, rfl⟩ := Go.Conc.mem_ofEvents hop; rfl) (fun op hop => by obtain ⟨e, he, rfl⟩ := Go.Conc.mem_ofEvents hop; exact hno e he),
    h.norel.app (norel_of (norel_of_Bk hbk)), fun k hk hst => ?_, h.has, h.pay,
    seen_low h.seen (Nat.le_refl _) fun op hop => by obtain ⟨e, he, rfl⟩ := Go.Conc.mem_ofEvents hop; exact low_mute (hes e he) _⟩
  · by_cases e : x = i
    · subst e
      have : y = g' := by
        rw [Array.getElem?_setIfInBounds_self_of_lt (by simp [hs]; omega)] at hg
        exact (Option.some.inj hg).symm
      subst this
      exact ⟨q, by rw [upd_same], by rw [Deaf_own]; exact hq⟩
    · rw [Array.getElem?_setIfInBounds_ne (Ne.symm e), Array.getElem?_map] at hg
      obtain ⟨z, hz, rfl⟩ := Option.map_eq_some_iff.1 hg
      obtain ⟨q', hq1, hq2⟩ := h.old x z g1 g2 hz
      exact ⟨q', by rw [upd_ne M _ e]; exact hq1, by rw [woken_quitsD hq2, dz x e]; exact hq2⟩
  · obtain ⟨x, t, a1, a2, a3⟩ := h.wk k hk
    refine ⟨x, t, ?_, by rw [dz _ (by omega)]; exact a2, by rw [upd_ne M _ (by omega)]; exact a3⟩
    rw [Array.getElem?_setIfInBounds_ne (by omega), Array.getElem?_map, a1]
    simp [a2.woken]
  · obtain ⟨r, hr⟩ := h.rel k hk hst
    exact ⟨r, hr.appOther g_of_ofEvents (by omega)⟩
/-- a go statement -/
theorem Cfg.spawn (O : p.Ok) (h : Cfg P p j gs w T D M) (h0 : Deaf T 0 = 0) {a' child : Goroutine} {x y : MemOp} (hx : x.g = 0 ∧ x.act = .go (p.c + j)) (hy : y.g = p.c + j ∧ y.act = .start) {t : Tr}
    (hc : WT P (RWk p j) (DWk p j) (AtR0 P p.ty p.Wg p.C p.n (p.Lw (j + 1)) (j + 1) (p.val j)) t child w) :
    Cfg P p (j + 1) ((gs.setIfInBounds 0 a').push child) w (T ++ #[x, y]) (upd D j ⟨7, 0, 0⟩) (upd M (p.c + j) (7, t)) := by
  have hp := O.pos
  have hs : gs.size = p.c + j := h.size
  have hst : ∀ op ∈ #[x, y], op.act ≠ .mark .disable ∧ op.act ≠ .mark .enable := by
    intro op hop
    simp at hop
    rcases hop with rfl | rfl
    · rw [hx.2]; exact ⟨by simp, by simp⟩
    · rw [hy.2]; exact ⟨by simp, by simp⟩
  have dz : ∀ i, Deaf (T ++ #[x, y]) i = Deaf T i := fun i => Deaf_still T i _ hst
  refine ⟨by simp [hs]; omega, fun i g h1 h2 hg => ?_, fun k hk => ?_, fun i hi => by rw [dz]; exact h.above i (by omega), h.tf.fork O.lie hx hy h0 (h.above _ (Nat.le_refl _)), h.norel.app fun op hop => ?_, fun k hk hs' => ?_, fun k hk hs' => ?_, h.pay,
    seen_low h.seen (Nat.le_refl _) fun op hop => ?_⟩
  · rw [Array.getElem?_push, if_neg (by simp [hs]; omega), Array.getElem?_setIfInBounds_ne (by omega)] at hg
    obtain ⟨q, hq1, hq2⟩ := h.old i g h1 h2 hg
    exact ⟨q, by rw [upd_ne M _ (by omega)]; exact hq1, by rw [dz]; exact hq2⟩
  · by_cases e : k = j
    · subst e
      refine ⟨child, t, ?_, ?_, by rw [upd_same, upd_same]⟩
      · rw [Array.getElem?_push, if_pos (by simp [hs])]
      · rw [upd_same, dz, h.above _ (Nat.le_refl _)]; exact .r0 hc
    · obtain ⟨g, t', h1, h2, h3⟩ := h.wk k (by omega)
      refine ⟨g, t', ?_, by rw [upd_ne D _ e, dz]; exact h2, by rw [upd_ne D _ e, upd_ne M _ (by omega)]; exact h3⟩
      rw [Array.getElem?_push, if_neg (by simp [hs]; omega), Array.getElem?_setIfInBounds_ne (by omega)]
      exact h1
  · simp at hop
    rcases hop with rfl | rfl
    · rw [hx.2]; simp
    · rw [hy.2]; simp
  · by_cases e : k = j
    · subst e; rw [upd_same] at hs'; simp at hs'
    · rw [upd_ne D _ e] at hs'
      obtain ⟨r, hr⟩ := h.rel k (by omega) hs'
      refine ⟨r, hr.appNot fun op hop => ?_⟩
      simp at hop
      rcases hop with rfl | rfl
      · rw [hx.1]; omega
      · rw [hy.1]; omega
  · by_cases e : k = j
    · subst e; rw [upd_same] at hs'; simp at hs'
    · rw [upd_ne D _ e] at hs'; exact h.has k (by omega) hs'
  · simp at hop
    rcases hop with rfl | rfl
    · rw [hx.2]; trivial
    · rw [hy.2]; trivial
end
end Go.Proofs.YtdjoodbidcncaaaGreatDoor.AW

/- Many workers beside goroutines that only leave: a step of whichever of the others. -/
namespace Go.Proofs.YtdjoodbidcncaaaGreatDoor.AW
open Go Go.Conc Go.ConcN
open Go.ConcR (KK wgBlock WgAt stA smA rd wr mk Payload Aside2 DC0 Bk g_of_ofEvents ofEvent_loc_mark bk_of_mute)
variable [Payload]
/-- what comes of a step of goroutine number i's -/
def Oth (P : Program) (p : Ph) (tag : CTag) (j : Nat) (gs : Array Goroutine) (w : World) (T : Trace) (D : Nat → WD) (M : Nat → Ms) (i : Nat) (g : Goroutine) : Prop :=
  ∃ g' w' es D' M' st' sm', stepG P false g w = .go g' w' es ∧ RC p.ty p.Wg p.C w w' ∧ MsL gs.size M' M ∧ WgAt p.ty p.Wg w' st' sm' ∧ Vc j D' ≤ Vc j D ∧
    (∀ tag', (tag' = tag ∨ (tag = .blk ∧ tag' = .w3)) → (mayWake P g = true → g'.status = .running → tag' ≠ .blk) → ConcN.Mode j D' tag' st' sm') ∧
    Cfg P p j ((gs.map (woken P g g' w')).setIfInBounds i g') w' (T ++ MemOp.ofEvents i g.frame.fn g.frame.place es) D' M'
section
variable {P : Program} {p : Ph} {j : Nat} {gs : Array Goroutine} {w w' : World} {T : Trace} {D : Nat → WD} {M : Nat → Ms} {tag : CTag} {st sm : Int}

theorem opq {k : Nat} (h : OpenSt j D) : OpenSt j (upd D k ⟨1, 0, 0⟩) := fun a ha => by
  have _pl := (inferInstance : Payload)
  by_cases e : a = k
  · subst e; rw [upd_same]; simp
  · rw [upd_ne D _ e]; exact h a ha
theorem last_upd {k s : Nat} (hW3 : isW3 tag) (hk : k < j) (hs : s = 4 ∨ s = 3 ∨ s = 2) (hoth : ∀ a, a < j → a ≠ k → (D a).stage = 1) : ConcN.Mode j (upd D k ⟨s, 0, 0⟩) tag (if s = 2 then 0 else 1) 0 := by
  have _pl := (inferInstance : Payload)
  have := ConcN.Mode.last (j := j) (D := upd D k ⟨s, 0, 0⟩) (tag := tag) k hW3 hk (by rw [upd_same]; exact hs) (fun a ha e => by rw [upd_ne D _ e]; exact hoth a ha e)
  rwa [upd_same] at this

theorem oth_old (O : p.Ok) (h : Cfg P p j gs w T D M) (hwg : WgAt p.ty p.Wg w st sm) (hm : ConcN.Mode j D tag st sm) {i : Nat} (h1 : 0 < i) (h2 : i < p.c) {g : Goroutine} (hg : gs[i]? = some g) (hrun : g.status = .running) : Oth P p tag j gs w T D M i g := by
  obtain ⟨q, hq1, hq2⟩ := h.old i g h1 h2 hg
  cases q with
  | zero => rw [hq2.1] at hrun; cases hrun
  | succ q =>
    rcases hq2 with ⟨hf, _⟩ | ⟨_, g', es, hmute, hstep, hq⟩
    · rw [hf] at hrun; cases hrun
    · exact ⟨g', w, es, D, upd M i (1, chain q), st, sm, hstep w, .refl w, ⟨i, (Array.getElem?_eq_some_iff.1 hg).1, by rw [upd_same, hq1]; exact Prod.Lex.right _ ⟨_, w, rfl, rfl⟩, fun k hk => upd_ne M _ hk⟩, hwg, Nat.le_refl _, fun tag' ht _ => hm.retag ht, h.slip O h1 h2 hmute hq⟩

theorem oth_wk (O : p.Ok) (h : Cfg P p j gs w T D M) (hb : j + pend tag ≤ p.n) (hwg : WgAt p.ty p.Wg w st sm) (hmode : ConcN.Mode j D tag st sm) {k : Nat} (hk : k < j) {g : Goroutine} (hg : gs[p.c + k]? = some g) (hrun : g.status = .running) : Oth P p tag j gs w T D M (p.c + k) g := by
  obtain ⟨g₁, t, hg₁, hs, hM⟩ := h.wk k hk
  obtain rfl : g = g₁ := by rw [hg] at hg₁; exact Option.some.inj hg₁
  generalize hst : (D k).stage = s at hs hM
  generalize hde : Deaf T (p.c + k) = dd at hs
  have hVj := Vc_le j D
  have hlt := (Array.getElem?_eq_some_iff.1 hg).1
  have hn := O.hn
  have fin : ∀ {g' : Goroutine} {w' : World} {es : Array Event} {s' dd' : Nat} {t' : Tr} {st' sm' : Int}, stepG P false g w = .go g' w' es → RC p.ty p.Wg p.C w w' → (∀ k', k' < j → k' ≠ k → RWk p k' w w') → WS P p k s' t' dd' g' w' → deafBehind dd es = dd' → (∀ e ∈ es, EvK p k w' e) →
      (s' ≤ 6 → ∃ r, RelBy (stA p.Wg) (T ++ MemOp.ofEvents (p.c + k) g.frame.fn g.frame.place es) (p.c + k) r) → (s' ≤ 6 → Has p.C k (p.val k) w') → PayAt p.C p.n w' → WgAt p.ty p.Wg w' st' sm' →
      (∀ tag', (tag' = tag ∨ (tag = .blk ∧ tag' = .w3)) → (mayWake P g = true → g'.status = .running → tag' ≠ .blk) → ConcN.Mode j (upd D k ⟨s', 0, 0⟩) tag' st' sm') → ((s' < s ∧ cnt ⟨s', 0, 0⟩ ≤ cnt (D k)) ∨ (s' = s ∧ Tr.lt t' t)) → Oth P p tag j gs w T D M (p.c + k) g := by
    intro g' w' es s' dd' t' st' sm' hgo hrc hrw hs' hdd hes hrel hhas hpay hwg' hmode' hl
    refine ⟨g', w', es, upd D k ⟨s', 0, 0⟩, upd M (p.c + k) (s', t'), st', sm', hgo, hrc, ⟨p.c + k, hlt, ?_, fun i hi => upd_ne M _ hi⟩, hwg', ?_, hmode', h.stepW O hk hrw hs' (by rw [hde]; exact hdd) hes hrc.aside.size hrel hhas hpay⟩
    · rw [upd_same, hM]
      rcases hl with ⟨h1, _⟩ | ⟨rfl, h1⟩
      · exact Prod.Lex.left _ _ h1
      · exact Prod.Lex.right _ h1
    · have hv := Vc_upd D (⟨s', 0, 0⟩ : WD) hk
      rcases hl with ⟨_, h1⟩ | ⟨rfl, _⟩
      · omega
      · have : cnt (⟨s', 0, 0⟩ : WD) = cnt (D k) := by simp only [cnt, hst]
        omega
  -- a step of the library's bookkeeping: at most the group's block turns
  have bookG : ∀ {g' : Goroutine} {w' : World} {es : Array Event} {s' dd' : Nat} {t' : Tr} {st' sm' : Int}, stepG P false g w = .go g' w' es → Aside p.Wg w w' → WgAt p.ty p.Wg w' st' sm' → (∀ e ∈ es, Bk p.Wg e) →
      (∀ jx e, es[jx]? = some e → (MemAct.ofEvent e).touch? = none ∨ 0 < deafBehind dd (es.extract 0 jx)) → WS P p k s' t' dd' g' w' → deafBehind dd es = dd' → s ≤ 6 →
      (∀ tag', (tag' = tag ∨ (tag = .blk ∧ tag' = .w3)) → (mayWake P g = true → g'.status = .running → tag' ≠ .blk) → ConcN.Mode j (upd D k ⟨s', 0, 0⟩) tag' st' sm') → ((s' < s ∧ cnt ⟨s', 0, 0⟩ ≤ cnt (D k)) ∨ (s' = s ∧ Tr.lt t' t)) → Oth P p tag j gs w T D M (p.c + k) g := by
    intro g' w' es s' dd' t' st' sm' hgo hAs hwg' hbk hd hs' hdd h6 hmode' hl
    obtain ⟨cs, hcs1, hcs2⟩ := h.pay
    exact fin hgo (RC.of_wg hAs ⟨_, _, hwg'⟩) (fun k' _ _ => RW.of_wg hAs ⟨_, _, hwg'⟩ O.hCW) hs' hdd (fun e he => bk_evK (by rw [hAs.size]; exact wg_lt hwg) (hbk e he)) (fun _ => let ⟨r, hr⟩ := h.rel k hk (by omega); ⟨r, hr.book hde _ _ hbk hd⟩)
      (fun _ => (cell_of_block (hAs.block p.C O.hCW) k).trans (h.has k hk (by omega))) ⟨cs, (hAs.block p.C O.hCW).trans hcs1, hcs2⟩ hwg' hmode' hl
  have book : ∀ {g' : Goroutine} {w' : World} {es : Array Event} {s' dd' : Nat} {t' : Tr} {st' sm' : Int}, stepG P false g w = .go g' w' es → Aside p.Wg w w' → WgAt p.ty p.Wg w' st' sm' → (∀ e ∈ es, Bk p.Wg e) →
      (∀ jx e, es[jx]? = some e → (MemAct.ofEvent e).touch? = none ∨ 0 < deafBehind dd (es.extract 0 jx)) → WS P p k s' t' dd' g' w' → deafBehind dd es = dd' → s ≤ 6 → ConcN.Mode j (upd D k ⟨s', 0, 0⟩) tag st' sm' → ((s' < s ∧ cnt ⟨s', 0, 0⟩ ≤ cnt (D k)) ∨ (s' = s ∧ Tr.lt t' t)) → Oth P p tag j gs w T D M (p.c + k) g :=
    fun hgo hAs hwg' hbk hd hs' hdd h6 hmode' hl => bookG hgo hAs hwg' hbk hd hs' hdd h6 (fun _ ht _ => hmode'.retag ht) hl
  have idle : ∀ {g' : Goroutine} {t' : Tr}, stepG P false g w = .go g' w #[] → WS P p k s t' dd g' w → Tr.lt t' t → s ≤ 6 → Oth P p tag j gs w T D M (p.c + k) g := by
    intro g' t' hgo hs' ht h6
    exact book hgo (.refl p.Wg w) hwg (by simp) (by simp) hs' rfl h6 (by have := hmode.same (i := k) 0 0; rwa [hst] at this) (.inr ⟨rfl, ht⟩)
  have one : ∀ (e : Event) (d : Nat), (MemAct.ofEvent e).touch? = none ∨ 0 < d → ∀ jx x, (#[e] : Array Event)[jx]? = some x → (MemAct.ofEvent x).touch? = none ∨ 0 < deafBehind d ((#[e] : Array Event).extract 0 jx) := by
    intro e d hd jx x hx
    match jx, hx with
    | 0, hx => simp at hx; subst hx; exact hd.imp id fun h => by simpa [deafBehind] using h
    | jx + 1, hx => simp at hx
  cases hs with
  | r0 hw =>
    cases t with
    | leaf =>
      obtain ⟨_, hhas, g', hgo, m₂, hk'⟩ := hw w (RW.refl w)
      obtain ⟨t', ht'⟩ := WT.of_goes RW.refl hk'
      exact fin hgo (.refl w) (fun _ _ _ => RW.refl w) (.k1 ht') rfl (fun e he => by simp at he; subst he; exact ⟨fun x hx => (by cases hx), by simp [mk], wg_lt hwg⟩) (fun _ => ⟨T.size, RelBy.new hde _ _⟩) (fun _ => by simpa using hhas) h.pay hwg
        (fun _ ht _ => (hmode.counted hk (by omega) (.inl rfl) _ _).retag ht) (.inl ⟨by omega, by simp [cnt, hst]⟩)
    | node f =>
      obtain ⟨g', w', es, hgo, ⟨hac, hev⟩, hg'⟩ := hw.2 w (RW.refl w)
      exact fin hgo (RC.of_cell hac O.hCW) (fun k' _ e => RW.of_cell hac e O.hCW) (.r0 hg') (by rw [deafBehind_idle (fun e he => (hev e he).2) 0]) (fun e he => (hev e he).1) (fun h => by omega) (fun h => by omega) (hac.pay h.pay) (hwg.of_block (hac.block p.Wg (Ne.symm O.hCW)))
        (fun _ ht _ => ConcN.Mode.retag (by have := hmode.same (i := k) 0 0; rwa [hst] at this) ht) (.inr ⟨rfl, _, w, rfl, rfl⟩)
  | k1 hw =>
    cases t with
    | leaf =>
      obtain ⟨_, g', hgo, m₂, hk'⟩ := hw w (RW.refl w)
      obtain ⟨t', ht'⟩ := WT.of_goes RW.refl hk'
      exact book hgo (.refl p.Wg w) hwg (by intro e he; simp at he; subst he; exact .inl rfl) (one _ _ (.inl rfl)) (.d1 ht') rfl (by omega) (hmode.counted hk (by omega) (.inr rfl) _ _) (.inl ⟨by omega, by simp [cnt, hst]⟩)
    | node f =>
      obtain ⟨g', w', es, hgo, ⟨rfl, rfl⟩, hg'⟩ := hw.2 w (RW.refl w)
      exact idle hgo (.k1 hg') ⟨_, _, rfl, rfl⟩ (by omega)
  | d1 hw =>
    cases t with
    | leaf =>
      obtain ⟨_, hall⟩ := hw w (RW.refl w)
      have hc1 : cnt (D k) = 1 := by simp [cnt, hst]
      have hV1 : 1 ≤ Vc j D := by have := le_sumTo (f := fun x => cnt (D x)) hk; simp only [Vc]; omega
      have df2 : ∀ jx e, (#[rd (stA p.Wg), wr (stA p.Wg)] : Array Event)[jx]? = some e → (MemAct.ofEvent e).touch? = none ∨ 0 < deafBehind 1 ((#[rd (stA p.Wg), wr (stA p.Wg)] : Array Event).extract 0 jx) := by
        intro jx e he
        match jx, he with
        | 0, _ => exact .inr (by simp [deafBehind])
        | 1, _ => exact .inr (by simp [deafBehind, rd])
        | jx + 2, he => simp at he
      have hq0 : cnt (⟨1, 0, 0⟩ : WD) = 0 := rfl
      cases hmode with
      | opn h1 h2 h3 =>
        obtain ⟨v, hv⟩ : ∃ v, Vc j D + pend tag = v + 1 := ⟨Vc j D + pend tag - 1, by omega⟩
        rw [hv] at hwg
        obtain ⟨g', hgo, _, hq⟩ := hall v 0 (by omega) (by omega) (by simpa using hwg)
        obtain ⟨q, hq⟩ := hq (by omega)
        have hv' : Vc j (upd D k ⟨1, 0, 0⟩) + pend tag = v := by have := Vc_upd D (⟨1, 0, 0⟩ : WD) hk; omega
        refine book hgo (aside_setCell w (stA p.Wg) _) (hwg.setSt _) bk_rw df2 (.quit hq) rfl (by omega) ?_ (.inl ⟨by omega, by simp [cnt]⟩)
        have e : ((v : Nat) : Int) * KK + ((0 : Nat) : Int) = ((Vc j (upd D k ⟨1, 0, 0⟩) + pend tag : Nat) : Int) * KK := by rw [hv']; simp
        rw [e]
        exact .opn h1 (opq h2) (fun vs ev => by have := h3 vs ev; omega)
      | reg h1 h2 h3 =>
        obtain ⟨v, hv⟩ : ∃ v, Vc j D = v + 1 := ⟨Vc j D - 1, by omega⟩
        rw [hv] at hwg
        have hp : pend tag = 0 := by cases tag <;> first | rfl | exact h1.elim
        obtain ⟨g', hgo, hl, hq⟩ := hall v 1 (by omega) (by omega) (by simpa using hwg)
        by_cases hv0 : v = 0
        · subst hv0
          obtain ⟨m₂, hk'⟩ := hl ⟨rfl, rfl⟩
          obtain ⟨t', ht'⟩ := WT.of_goes RW.refl hk'
          refine book hgo (aside_setCell w (stA p.Wg) _) (hwg.setSt _) bk_rw df2 (.d2 ht') rfl (by omega) ?_ (.inl ⟨by omega, by simp [cnt]⟩)
          have hoth : ∀ a, a < j → a ≠ k → (D a).stage = 1 := fun a ha e => by
            have c0 := others_uncounted hk hv hc1 a ha e
            have := h2 a ha
            simp only [cnt] at c0
            split at c0 <;> omega
          simpa using last_upd (s := 4) h1 hk (.inl rfl) hoth
        · obtain ⟨q, hq⟩ := hq (by omega)
          have hv' : Vc j (upd D k ⟨1, 0, 0⟩) = v := by have := Vc_upd D (⟨1, 0, 0⟩ : WD) hk; omega
          refine book hgo (aside_setCell w (stA p.Wg) _) (hwg.setSt _) bk_rw df2 (.quit hq) rfl (by omega) ?_ (.inl ⟨by omega, by simp [cnt]⟩)
          have e : ((v : Nat) : Int) * KK + ((1 : Nat) : Int) = ((Vc j (upd D k ⟨1, 0, 0⟩) : Nat) : Int) * KK + 1 := by rw [hv']; simp
          rw [e]
          exact .reg h1 (opq h2) (by omega)
      | last L _ h2 h3 h4 =>
        by_cases e : k = L
        · subst e; omega
        · have := h4 k hk e; omega
      | sema h2 => have := h2 k hk; omega
      | fin _ h2 => have := h2 k hk; omega
    | node f =>
      obtain ⟨g', w', es, hgo, ⟨rfl, rfl⟩, hg'⟩ := hw.2 w (RW.refl w)
      exact idle hgo (.d1 hg') ⟨_, _, rfl, rfl⟩ (by omega)
  | d2 hw =>
    cases t with
    | leaf =>
      obtain ⟨_, hx⟩ := hw w (RW.refl w)
      obtain ⟨hW3, hoth, rfl, rfl⟩ := hmode.isLast hk (by omega)
      simp only [hst] at hwg
      obtain ⟨g', hgo, m₂, hk'⟩ := hx (by simpa using hwg)
      obtain ⟨t', ht'⟩ := WT.of_goes RW.refl hk'
      exact book hgo (.refl p.Wg w) hwg bk_rd (one _ _ (.inr (by omega))) (.d3 ht') rfl (by omega) (by simpa using last_upd (s := 3) hW3 hk (.inr (.inl rfl)) hoth) (.inl ⟨by omega, by simp [cnt]⟩)
    | node f =>
      obtain ⟨g', w', es, hgo, ⟨rfl, rfl⟩, hg'⟩ := hw.2 w (RW.refl w)
      exact idle hgo (.d2 hg') ⟨_, _, rfl, rfl⟩ (by omega)
  | d3 hw =>
    cases t with
    | leaf =>
      obtain ⟨_, hx⟩ := hw w (RW.refl w)
      obtain ⟨hW3, hoth, rfl, rfl⟩ := hmode.isLast hk (by omega)
      simp only [hst] at hwg
      obtain ⟨g', hgo, m₂, hk'⟩ := hx (by simpa using hwg)
      obtain ⟨t', ht'⟩ := WT.of_goes RW.refl hk'
      exact book hgo (aside_setCell w (stA p.Wg) _) (hwg.setSt 0) (by intro e he; simp at he; subst he; exact .inr (.inr ⟨_, _, rfl, rfl⟩)) (one _ _ (.inr (by omega))) (.d4 ht') rfl (by omega) (by simpa using last_upd (s := 2) hW3 hk (.inr (.inr rfl)) hoth) (.inl ⟨by omega, by simp [cnt]⟩)
    | node f =>
      obtain ⟨g', w', es, hgo, ⟨rfl, rfl⟩, hg'⟩ := hw.2 w (RW.refl w)
      exact idle hgo (.d3 hg') ⟨_, _, rfl, rfl⟩ (by omega)
  | d4 hw =>
    cases t with
    | leaf =>
      obtain ⟨_, hmw, hx⟩ := hw w (RW.refl w)
      obtain ⟨hW3, hoth, rfl, rfl⟩ := hmode.isLast hk (by omega)
      simp only [hst] at hwg
      obtain ⟨g', hgo, q, hq⟩ := hx (by simpa using hwg)
      have hrun' : g'.status = .running := by
        cases q with
        | zero => exact absurd hq.2 (by decide)
        | succ q => exact hq.elim (fun x => absurd x.2 (by decide)) (fun x => x.1)
      refine bookG hgo (aside_setCell w (smA p.Wg) _) (hwg.setSm 1) (es := semEvents (smA p.Wg)) bk_sem ?_ (.quit hq) (by simp [deafBehind, semEvents]) (by omega) ?_ (.inl ⟨by omega, by simp [cnt]⟩)
      · intro jx e he
        match jx, he with
        | 0, he => simp [semEvents] at he; subst he; exact .inl rfl
        | 1, _ => exact .inr (by simp [deafBehind, semEvents])
        | 2, _ => exact .inr (by simp [deafBehind, semEvents])
        | 3, he => simp [semEvents] at he; subst he; exact .inl rfl
        | jx + 4, he => simp [semEvents] at he
      · intro tag' ht hw
        have hnb := hw hmw hrun'
        have e3 : tag' = .w3 := by
          rcases ht with rfl | ⟨_, rfl⟩
          · cases tag' <;> first | rfl | exact hW3.elim | exact absurd rfl hnb
          · rfl
        subst e3
        simp only [if_true]
        exact .sema fun a ha => by
          by_cases e : a = k
          · subst e; rw [upd_same]
          · rw [upd_ne D _ e]; exact hoth a ha e
    | node f =>
      obtain ⟨g', w', es, hgo, ⟨rfl, rfl⟩, hg'⟩ := hw.2 w (RW.refl w)
      exact idle hgo (.d4 hg') ⟨_, _, rfl, rfl⟩ (by omega)
  | quit hq =>
    rename_i q
    cases q with
    | zero => rw [hq.1] at hrun; cases hrun
    | succ q =>
      rcases hq with ⟨hf, _⟩ | ⟨_, g', es, hmute, hstep, hq⟩
      · rw [hf] at hrun; cases hrun
      · exact book (hstep w) (.refl p.Wg w) hwg (fun e he => bk_of_mute (hmute e he)) (fun jx e he => .inl (touch_mute (hmute e (Array.mem_of_getElem? he)))) (.quit hq) rfl (by omega) (by have := hmode.same (i := k) 0 0; rwa [hst] at this) (.inr ⟨rfl, _, w, rfl, rfl⟩)

theorem oth (O : p.Ok) (h : Cfg P p j gs w T D M) (hb : j + pend tag ≤ p.n) (hwg : WgAt p.ty p.Wg w st sm) (hm : ConcN.Mode j D tag st sm) {i : Nat} (hi : 0 < i) {g : Goroutine} (hg : gs[i]? = some g) (hrun : g.status = .running) : Oth P p tag j gs w T D M i g := by
  by_cases hc : i < p.c
  · exact oth_old O h hwg hm hi hc hg hrun
  · have hlt := (Array.getElem?_eq_some_iff.1 hg).1
    rw [h.size] at hlt
    obtain ⟨k, rfl⟩ : ∃ k, i = p.c + k := ⟨i - p.c, by omega⟩
    exact oth_wk O h hb hwg hm (by omega) hg hrun
end
end Go.Proofs.YtdjoodbidcncaaaGreatDoor.AW

/- Goroutine 0 beside many workers and goroutines that only leave: a judgement without counts. -/
namespace Go.Proofs.YtdjoodbidcncaaaGreatDoor.AW
open Go Go.Conc Go.ConcN
open Go.ConcR (KK wgBlock WgAt stA smA rd wr mk Payload Aside2 DC0 Bk g_of_ofEvents ofEvent_loc_mark bk_of_mute)
variable [Payload]
/-- goroutine 0 at g, in world w, j workers started: from every configuration the run ends well -/
def EJ (P : Program) (Post : Value → World → Prop) (p : Ph) (tag : CTag) (j V d : Nat) (g : Goroutine) (w : World) : Prop :=
  ∀ gs sl T D M w₁ st sm, RC p.ty p.Wg p.C w w₁ → gs[0]? = some g → Cfg P p j gs w₁ T D M → Deaf T 0 = d → WgAt p.ty p.Wg w₁ st sm → ConcN.Mode j D tag st sm → Vc j D ≤ V → EndsF P Post (crowd gs w₁ sl) T
section
variable {P : Program} {Post : Value → World → Prop} {p : Ph} {tag : CTag} {j V d : Nat} {g : Goroutine} {w : World}
theorem EJ.rely {w₁ : World} (h : EJ P Post p tag j V d g w) (hr : RC p.ty p.Wg p.C w w₁) : EJ P Post p tag j V d g w₁ := fun gs sl T D M w₂ st sm h₂ => h gs sl T D M w₂ st sm (hr.trans h₂)
theorem Cfg.awakes {gs : Array Goroutine} {T : Trace} {D : Nat → WD} {M : Nat → Ms} {a : Goroutine} (h : Cfg P p j gs w T D M) (h0 : gs[0]? = some a) (ha : awake a) : ∀ g ∈ gs, awake g := by
  intro g hg
  obtain ⟨i, hi, rfl⟩ := Array.mem_iff_getElem.1 hg
  have hgi : gs[i]? = some gs[i] := Array.getElem?_eq_getElem hi
  by_cases e : i = 0
  · subst e; rw [h0] at hgi; rw [← Option.some.inj hgi]; exact ha
  · by_cases hc : i < p.c
    · obtain ⟨q, _, hq⟩ := h.old i _ (by omega) hc hgi
      exact awake_of (hq.status.elim .inl fun x => .inr (.inr x))
    · have hs := h.size
      obtain ⟨x, t, h1, h2, _⟩ := h.wk (i - p.c) (by omega)
      rw [show p.c + (i - p.c) = i by omega, hgi] at h1
      rw [Option.some.inj h1]
      exact awake_of (h2.status.elim .inl fun x => .inr (.inr x))

/-- goroutine 0 runs: the others' moves are done; here is its own -/
theorem EJ.own (O : p.Ok) (hb : j + pend tag ≤ p.n) (htag : tag ≠ .blk) (hrun : g.status = .running)
    (h : ∀ gs sl T D M w₁ st sm, RC p.ty p.Wg p.C w w₁ → gs[0]? = some g → Cfg P p j gs w₁ T D M → Deaf T 0 = d → WgAt p.ty p.Wg w₁ st sm → ConcN.Mode j D tag st sm → Vc j D ≤ V → ∀ m, stepT P m = runT P (crowd gs w₁ sl) 0 → EndsF P Post m T) : EJ P Post p tag j V d g w := by
  intro gs sl T D M w₁ st sm hr h0 hc hd hw hm hV
  have hN : ∃ N, N = gs.size := ⟨_, rfl⟩
  obtain ⟨N, hN⟩ := hN
  induction msL_acc N M generalizing gs sl T D w₁ st sm with
  | intro M _ ih =>
    obtain ⟨i, x, dd, sl', hi, hx, hst⟩ := crowd_pick (P := P) (w := w₁) (sl := sl) (hc.awakes h0 (awake_of (.inl hrun))) ⟨0, g, h0, hrun⟩
    rcases Nat.eq_zero_or_pos i with rfl | hpos
    · exact h gs sl' T D M (w₁.at dd) st sm (hr.trans (RC.at w₁ dd)) h0 (hc.at dd) hd hw hm hV _ hst
    · obtain ⟨g', w', es, D', M', st', sm', hgo, hrc, hlt, hw', hv', hm', hc'⟩ := oth O (hc.at dd) hb (show WgAt p.ty p.Wg (w₁.at dd) st sm from hw) hm hpos hi hx
      have hi0 : (i == 0) = false := by simp; omega
      have hrunT := runT_crowd_go (P := P) (sl := sl') (i := i) hi (by rw [hi0]; exact hgo)
      refine EndsF.next (hst.trans hrunT) (ih M' (hN ▸ hlt) _ sl' _ D' w' st' sm' (hr.trans ((RC.at w₁ dd).trans hrc)) ?_ hc' ?_ hw' (hm' tag (.inl rfl) fun _ _ => htag) (Nat.le_trans hv' hV) (by simp [hN]))
      · rw [Array.getElem?_setIfInBounds_ne (by omega), Array.getElem?_map, h0]
        simp [woken_run hrun]
      · rw [Deaf_other T (show i ≠ 0 by omega) _ g_of_ofEvents]; exact hd

/-- goroutine 0 sleeps at the semaphore -/
theorem EJ.blk (O : p.Ok) (hb : j ≤ p.n) (hrun : g.status = .running) (hoff : g.offers = none) (h : EJ P Post p .w3 j V d g w) : EJ P Post p .blk j V d { g with status := .blocked } w := by
  intro gs sl T D M w₁ st sm hr h0 hc hd hw hm hV
  have hN : ∃ N, N = gs.size := ⟨_, rfl⟩
  obtain ⟨N, hN⟩ := hN
  induction msL_acc N M generalizing gs sl T D w₁ st sm with
  | intro M _ ih =>
    have some1 : ∃ (i : Nat) (x : Goroutine), gs[i]? = some x ∧ x.status = .running := by
      cases hm with
      | opn h1 _ _ => exact h1.elim
      | reg _ _ h3 =>
        obtain ⟨k, hk, h5⟩ := exists_counted h3
        obtain ⟨x, t, h1, h2, _⟩ := hc.wk k hk
        exact ⟨_, x, h1, h2.run_of (by omega)⟩
      | last L _ h2 h3 _ =>
        obtain ⟨x, t, h1, h4, _⟩ := hc.wk L h2
        exact ⟨_, x, h1, h4.run_of (by omega)⟩
      | fin h1 _ => exact h1.elim
    have hawk : awake { g with status := .blocked } := fun t => by simp
    obtain ⟨i, x, dd, sl', hi, hx, hst⟩ := crowd_pick (P := P) (w := w₁) (sl := sl) (hc.awakes h0 hawk) some1
    rcases Nat.eq_zero_or_pos i with rfl | hpos
    · rw [h0] at hi; rw [← Option.some.inj hi] at hx; simp at hx
    · obtain ⟨g', w', es, D', M', st', sm', hgo, hrc, hlt, hw', hv', hm', hc'⟩ := oth O (hc.at dd) (by simpa [pend] using hb) (show WgAt p.ty p.Wg (w₁.at dd) st sm from hw) hm hpos hi hx
      have hi0 : (i == 0) = false := by simp; omega
      have hrunT := runT_crowd_go (P := P) (sl := sl') (i := i) hi (by rw [hi0]; exact hgo)
      refine EndsF.next (hst.trans hrunT) ?_
      have hd' : Deaf (T ++ MemOp.ofEvents i x.frame.fn x.frame.place es) 0 = d := by rw [Deaf_other T (show i ≠ 0 by omega) _ g_of_ofEvents]; exact hd
      have h0' : ((gs.map (woken P x g' w')).setIfInBounds i g')[0]? = some (woken P x g' w' { g with status := .blocked }) := by
        rw [Array.getElem?_setIfInBounds_ne (by omega), Array.getElem?_map, h0]; rfl
      by_cases hwk : (mayWake P x && g'.status != .blocked && g'.status != .waiting) = true
      · have e : woken P x g' w' { g with status := .blocked } = g := by
          unfold woken; rw [if_pos hwk]
          unfold Goroutine.again
          obtain ⟨fr, cs, stt, dy, of⟩ := g
          simp only at hrun hoff
          subst hrun; subst hoff
          rfl
        rw [e] at h0'
        exact h _ sl' _ D' M' w' st' sm' (hr.trans ((RC.at w₁ dd).trans hrc)) h0' hc' hd' hw' (hm' .w3 (.inr ⟨rfl, rfl⟩) fun _ _ => by simp) (Nat.le_trans hv' hV)
      · have e : woken P x g' w' { g with status := .blocked } = { g with status := .blocked } := by unfold woken; rw [if_neg hwk]
        rw [e] at h0'
        exact ih M' (hN ▸ hlt) _ sl' _ D' w' st' sm' (hr.trans ((RC.at w₁ dd).trans hrc)) h0' hc' hd' hw' (hm' .blk (.inl rfl) fun h1 h2 => absurd (by simp [h1, h2]) hwk) (Nat.le_trans hv' hV) (by simp [hN])

/-- an ordinary step of goroutine 0's -/
theorem EJ.go (O : p.Ok) (hb : j + pend tag ≤ p.n) (htag : tag ≠ .blk) (hrun : g.status = .running)
    (h : ∀ w₁ st sm D, RC p.ty p.Wg p.C w w₁ → WgAt p.ty p.Wg w₁ st sm → ConcN.Mode j D tag st sm → Vc j D ≤ V → ∃ a' w' es tag' V' st' sm', stepG P true g w₁ = .go a' w' es ∧ (∀ k, k < j → RWk p k w₁ w') ∧ (∀ e ∈ es, EvZ p j w' e) ∧ w₁.heap.size ≤ w'.heap.size ∧ (PayAt p.C p.n w₁ → PayAt p.C p.n w') ∧
      WgAt p.ty p.Wg w' st' sm' ∧ ConcN.Mode j D tag' st' sm' ∧ Vc j D ≤ V' ∧ EJ P Post p tag' j V' (deafBehind d es) a' w') : EJ P Post p tag j V d g w :=
  EJ.own O hb htag hrun fun gs sl T D M w₁ st sm hr h0 hc hd hw hm hV m hst => by
    obtain ⟨a', w', es, tag', V', st', sm', hgo, hrw, hes, hsz, hpay, hw', hm', hV', hE⟩ := h w₁ st sm D hr hw hm hV
    have hrunT := runT_crowd_go (P := P) (sl := sl) (i := 0) h0 (show stepG P (0 == 0) g w₁ = _ from hgo)
    have hlt : 0 < gs.size := (Array.getElem?_eq_some_iff.1 h0).1
    exact EndsF.next (hst.trans hrunT) (hE _ sl _ D M w' st' sm' (RC.refl w') (by simp [hlt]) (hc.own0 O hrw hes hsz (hpay hc.pay)) (by rw [Deaf_own, hd]) hw' hm' hV')
/-- nothing of the group's, of the payload's, of the low blocks is turned -/
theorem EJ.idle (O : p.Ok) (hb : j + pend tag ≤ p.n) (htag : tag ≠ .blk) (hrun : g.status = .running)
    (h : ∀ w₁, RC p.ty p.Wg p.C w w₁ → ∃ a' w' es, stepG P true g w₁ = .go a' w' es ∧ (∀ b, b < p.Lw j → w'.heap[b]? = w₁.heap[b]?) ∧ (∀ e ∈ es, EvZ p j w' e ∧ e.loc ≠ .mark .disable ∧ e.loc ≠ .mark .enable) ∧ w₁.heap.size ≤ w'.heap.size ∧ EJ P Post p tag j V d a' w') : EJ P Post p tag j V d g w :=
  EJ.go O hb htag hrun fun w₁ st sm D hr hw hm hV => by
    obtain ⟨a', w', es, hgo, hlow, hes, hsz, hE⟩ := h w₁ hr
    have hWj : p.Wg < p.Lw j := Nat.lt_of_lt_of_le O.hW (O.mono 0 j (Nat.zero_le _))
    have hCj : p.C < p.Lw j := Nat.lt_of_lt_of_le O.hC (O.mono 0 j (Nat.zero_le _))
    refine ⟨a', w', es, tag, V, st, sm, hgo, fun k hk => RW.of_low hlow (O.mono _ _ (by omega)) hWj hCj, fun e he => (hes e he).1, hsz, fun ⟨cs, h1, h2⟩ => ⟨cs, (hlow p.C hCj).trans h1, h2⟩, hw.of_block (hlow p.Wg hWj), hm, hV, ?_⟩
    rw [deafBehind_idle (fun e he => (hes e he).2) d]
    exact hE
/-- the library's bookkeeping: at most the group's block is turned -/
theorem EJ.book (O : p.Ok) (hb : j + pend tag ≤ p.n) (htag : tag ≠ .blk) (hrun : g.status = .running)
    (h : ∀ w₁ st sm D, RC p.ty p.Wg p.C w w₁ → WgAt p.ty p.Wg w₁ st sm → ConcN.Mode j D tag st sm → Vc j D ≤ V → ∃ a' w' es tag' V' st' sm', stepG P true g w₁ = .go a' w' es ∧ Aside p.Wg w₁ w' ∧ (∀ e ∈ es, Bk p.Wg e) ∧
      WgAt p.ty p.Wg w' st' sm' ∧ ConcN.Mode j D tag' st' sm' ∧ Vc j D ≤ V' ∧ EJ P Post p tag' j V' (deafBehind d es) a' w') : EJ P Post p tag j V d g w :=
  EJ.go O hb htag hrun fun w₁ st sm D hr hw hm hV => by
    obtain ⟨a', w', es, tag', V', st', sm', hgo, hAs, hbk, hw', hm', hV', hE⟩ := h w₁ st sm D hr hw hm hV
    exact ⟨a', w', es, tag', V', st', sm', hgo, fun k _ => RW.of_wg hAs ⟨_, _, hw'⟩ O.hCW, fun e he => bk_evZ O (by rw [hAs.size]; exact wg_lt hw) (hbk e he), Nat.le_of_eq hAs.size.symm, fun ⟨cs, h1, h2⟩ => ⟨cs, (hAs.block p.C O.hCW).trans h1, h2⟩, hw', hm', hV', hE⟩
/-- a go statement -/
theorem EJ.spawn (O : p.Ok) (hj : j < p.n) (hrun : g.status = .running)
    (h : ∀ w₁, RC p.ty p.Wg p.C w w₁ → ∃ a' child, stepG P true g w₁ = .spawn a' child w₁ #[] ∧ (PayAt p.C p.n w₁ → ∃ t, WT P (RWk p j) (DWk p j) (AtR0 P p.ty p.Wg p.C p.n (p.Lw (j + 1)) (j + 1) (p.val j)) t child w₁) ∧ EJ P Post p .anch (j + 1) (V + 1) 0 a' w₁) : EJ P Post p (.sp 0 3) j V 0 g w :=
  EJ.own O (by simp [pend]; omega) (by simp) hrun fun gs sl T D M w₁ st sm hr h0 hc hd hw hm hV m hst => by
    obtain ⟨a', child, hsp, hwk, hE⟩ := h w₁ hr
    obtain ⟨t, ht⟩ := hwk hc.pay
    obtain ⟨ho, rfl, rfl, _⟩ := hm.open_inv trivial
    have hrunT := runT_crowd_spawn (P := P) (sl := sl) (i := 0) h0 (show stepG P (0 == 0) g w₁ = _ from hsp)
    rw [hc.size] at hrunT
    have hlt : 0 < gs.size := (Array.getElem?_eq_some_iff.1 h0).1
    have hc' := hc.spawn O hd (a' := a') (x := { g := 0, fn := g.frame.fn, pos := g.frame.place, act := .go (p.c + j) }) (y := { g := p.c + j, fn := child.frame.fn, pos := g.frame.place, act := .start }) ⟨rfl, rfl⟩ ⟨rfl, rfl⟩ ht
    have eV : Vc (j + 1) (upd D j ⟨7, 0, 0⟩) = Vc j D + 1 := by
      simp only [Vc, sumTo, upd_same]
      rw [sumTo_upd_out D _ cnt (Nat.le_refl _)]; rfl
    have hm' : ConcN.Mode (j + 1) (upd D j ⟨7, 0, 0⟩) .anch (((Vc j D + pend (.sp 0 3) : Nat) : Int) * KK) 0 := by
      have := ConcN.Mode.opn (j := j + 1) (D := upd D j ⟨7, 0, 0⟩) (tag := .anch) trivial (fun i hi => by
        by_cases e : i = j
        · subst e; rw [upd_same]; simp
        · rw [upd_ne D _ e]; exact ho i (by omega)) (fun vs e => by cases e)
      rw [eV] at this
      simpa [pend] using this
    refine EndsF.next (hst.trans hrunT) ?_
    have eq : ((MemOp.ofEvents 0 g.frame.fn g.frame.place #[]).push { g := 0, fn := g.frame.fn, pos := g.frame.place, act := .go (p.c + j) }).push { g := p.c + j, fn := child.frame.fn, pos := g.frame.place, act := .start } = #[{ g := 0, fn := g.frame.fn, pos := g.frame.place, act := .go (p.c + j) }, { g := p.c + j, fn := child.frame.fn, pos := g.frame.place, act := .start }] := by
      rw [ofEvents_eq]; simp
    rw [eq]
    refine hE _ sl _ _ _ w₁ _ _ (RC.refl w₁) ?_ hc' ?_ hw hm' (by omega)
    · rw [Array.getElem?_push_lt (by simpa using hlt)]; simp
    · rw [Deaf_still T 0 _ (fun op hop => by simp at hop; rcases hop with rfl | rfl <;> simp)]; exact hd
/-- goroutine 0 says 'acquire': the workers are among the leavers -/
theorem EJ.acquire (O : p.Ok) (hj : j = p.n) (hrun : g.status = .running)
    (h : ∀ w₁, RC p.ty p.Wg p.C w w₁ → (∀ k, k < j → Has p.C k (p.val k) w₁) → PayAt p.C p.n w₁ → ∃ a', stepG P true g w₁ = .go a' w₁ #[mk (.acquire (stA p.Wg))] ∧ Ends P Post p.Sh a' w₁) : EJ P Post p .acq j V 0 g w :=
  EJ.own O (by simp [pend]; omega) (by simp) hrun fun gs sl T D M w₁ st sm hr h0 hc hd hw hm hV m hst => by
    obtain ⟨hq, rfl, rfl⟩ := hm.fin_inv trivial
    obtain ⟨a', hgo, hE⟩ := h w₁ hr (fun k hk => hc.has k hk (by rw [hq k hk]; omega)) hc.pay
    have hrunT := runT_crowd_go (P := P) (sl := sl) (i := 0) h0 (show stepG P (0 == 0) g w₁ = _ from hgo)
    have hlt : 0 < gs.size := (Array.getElem?_eq_some_iff.1 h0).1
    have hs := hc.size
    have e1 : MemOp.ofEvents 0 g.frame.fn g.frame.place #[mk (.acquire (stA p.Wg))] = #[{ g := 0, fn := g.frame.fn, pos := g.frame.place, act := .mark (.acquire (stA p.Wg)) }] := by rw [ofEvents_eq]; simp [ConcR.ofEvent_mk]
    have quits : ∀ i, ∃ q, 0 < i → ∀ x, gs[i]? = some x → QuitsD P q (Deaf T i) x := fun i => by
      by_cases hi : 0 < i
      · by_cases hic : i < p.c
        · cases hx : gs[i]? with
          | none => exact ⟨0, fun _ x h => by cases h⟩
          | some x =>
            obtain ⟨q, _, h2⟩ := hc.old i x hi hic hx
            exact ⟨q, fun _ y hy => by cases hy; exact h2⟩
        · by_cases hij : i < p.c + j
          · obtain ⟨x, t, h1, h2, _⟩ := hc.wk (i - p.c) (by omega)
            rw [show p.c + (i - p.c) = i by omega] at h1 h2
            rw [hq (i - p.c) (by omega)] at h2
            obtain ⟨q, h3⟩ := h2.quits rfl
            exact ⟨q, fun _ y hy => by rw [h1] at hy; cases hy; exact h3⟩
          · exact ⟨0, fun _ x hx => by have := (Array.getElem?_eq_some_iff.1 hx).1; omega⟩
      · exact ⟨0, fun h => absurd h hi⟩
    refine EndsF.next (hst.trans hrunT) (hE _ sl _ (fun i => (quits i).choose) w₁ (atRel_refl _) (by simp [hlt]) ⟨fun i x hi hx => ?_, fun i hi => ?_⟩ ?_)
    · rw [Array.getElem?_setIfInBounds_ne (by omega), Array.getElem?_map] at hx
      obtain ⟨y, hy, rfl⟩ := Option.map_eq_some_iff.1 hx
      have h2 := (quits i).choose_spec hi y hy
      rw [woken_quitsD h2, Deaf_other T (show 0 ≠ i by omega) _ g_of_ofEvents]
      exact h2
    · rw [Deaf_other T (show 0 ≠ i by simp at hi; omega) _ g_of_ofEvents]
      exact hc.above i (by simp at hi; omega)
    · rw [e1]
      exact hc.tf.join hc.norel hd (fun k hk => hc.rel k hk (by rw [hq k hk]; omega)) hc.seen (show p.Wg < _ from wg_lt hw) ⟨rfl, rfl⟩
/-- from a frame: the group's block is made, no worker is started yet -/
theorem Ends.begin {S : Loc → Prop} {g' : Goroutine} {ty : TypeId} (hrun : g.status = .running) (mk : Nat → Ph) (hmk : ∀ c, (mk c).c = c ∧ (mk c).Wg = w.heap.size ∧ (mk c).ty = ty) (O : ∀ c, 0 < c → (mk c).Ok) (hS : ∀ c l, S l → (mk c).Sh l)
    (hstep : ∀ w₁, AtRel w w₁ → stepG P true g w₁ = .go g' { w₁ with heap := w₁.heap.push (wgBlock ty 0 0) } #[]) (hpay : ∀ c, PayAt (mk c).C (mk c).n w) (h : ∀ c, 0 < c → EJ P Post (mk c) .anch 0 0 0 g' { w with heap := w.heap.push (wgBlock ty 0 0) }) : Ends P Post S g w := by
  intro gs sl t q w₁ hr h0 hL hP
  generalize hM : sumTo gs.size q = M
  induction M using Nat.strongRecOn generalizing gs sl t q w₁ with
  | _ M ih =>
    refine one_move hrun h0 hL hP (fun d sl' hst => ?_) fun gs' d sl' ops q' hst h0' hL' hP' hlt => ih _ (by omega) gs' sl' _ q' _ (atRel_trans _ _ _ hr ⟨d, rfl⟩) h0' hL' hP' rfl
    have hr' := atRel_trans _ _ _ hr (show AtRel w₁ (w₁.at d) from ⟨d, rfl⟩)
    have hgo := hstep (w₁.at d) hr'
    obtain ⟨d', rfl⟩ := hr
    have hrunT := runT_crowd_go (P := P) (sl := sl') (i := 0) h0 (show stepG P (0 == 0) g _ = _ from hgo)
    have hlt : 0 < gs.size := (Array.getElem?_eq_some_iff.1 h0).1
    obtain ⟨e1, e2, e3⟩ := hmk gs.size
    have hO := O gs.size hlt
    have e0 : MemOp.ofEvents 0 g.frame.fn g.frame.place #[] = #[] := by rw [ofEvents_eq]; simp
    refine EndsF.next (hst.trans hrunT) ?_
    rw [e0, Array.append_empty]
    refine h gs.size hlt ((gs.map (woken P g g' _)).setIfInBounds 0 g') sl' t (fun _ => ⟨0, 0, 0⟩) (fun i => (1, chain (q i))) _ 0 0 ?_ (by simp [hlt]) ⟨by rw [e1]; simp, fun i x h1 h2 hx => ?_, fun k hk => absurd hk (by omega), fun i hi => hL.above i (by omega), TF.of_past hO.lie hP (hS gs.size) fun l hl => ?_, fun i hi => ?_, fun k hk => absurd hk (by omega), fun k hk => absurd hk (by omega), ?_, fun op hop => ?_⟩ hP.hears ?_ ?_ (by simp [Vc, sumTo])
    · exact ⟨⟨rfl, rfl, rfl, rfl, fun b _ _ => rfl⟩, id⟩
    · rw [Array.getElem?_setIfInBounds_ne (by omega), Array.getElem?_map] at hx
      obtain ⟨y, hy, rfl⟩ := Option.map_eq_some_iff.1 hx
      have hq := hL.old i y h1 hy
      exact ⟨q i, rfl, by rw [woken_quitsD hq]; exact hq⟩
    · obtain ⟨a, rfl, ha⟩ := hl
      rw [e2] at ha
      show ¬ a.block < w.heap.size
      omega
    · obtain ⟨op, ho, hact⟩ := Option.map_eq_some_iff.1 hi
      have := hP.seen op (Array.mem_of_getElem? ho)
      rw [hact] at this
      have : (mk gs.size).Wg < w.heap.size := this
      exact absurd e2 (Nat.ne_of_lt this)
    · obtain ⟨cs, h1, h2⟩ := hpay gs.size
      refine ⟨cs, ?_, h2⟩
      have : (mk gs.size).C < w.heap.size := Nat.lt_of_not_le fun hle => by rw [Array.getElem?_eq_none hle] at h1; cases h1
      show (w.heap.push _)[_]? = _
      rw [Array.getElem?_push, if_neg (by omega)]; exact h1
    · exact MemAct.low_mono (by show w.heap.size ≤ (w.heap.push _).size; simp) (hP.seen op hop)
    · show (w.heap.push _)[(mk gs.size).Wg]? = _
      rw [e2, e3]; simp
    · have := ConcN.Mode.opn (j := 0) (D := fun _ => (⟨0, 0, 0⟩ : WD)) (tag := .anch) trivial (fun i hi => by omega) (fun vs e => by cases e)
      simpa [Vc, sumTo, pend] using this
end
end Go.Proofs.YtdjoodbidcncaaaGreatDoor.AW

/- Goroutine 0's walk through the group's Add, beside many workers. -/
namespace Go.Proofs.YtdjoodbidcncaaaGreatDoor.AW
open Go Go.Conc Go.ConcN Go.RowKit Go.Conc.Lib Go.ConcR.Gen Go.ConcN.Gen
open Go.ConcR (KK wgBlock WgAt stA smA rd wr mk Payload Aside2 DC0 Bk g_of_ofEvents)
variable [Payload]
theorem rk {ty : TypeId} {Wg C : Nat} {w₀ w w₁ : World} (h : RC ty Wg C w₀ w ∧ WgLive ty Wg w) (r : RC ty Wg C w w₁) : RC ty Wg C w₀ w₁ ∧ WgLive ty Wg w₁ := by
  have _pl := (inferInstance : Payload)
  exact ⟨h.1.trans r, r.live h.2⟩
section
variable {P : Program} {Post : Value → World → Prop} {p : Ph} {tag tag' : CTag} {j V d : Nat} {g : Goroutine} {w : World}
theorem EJ.of_goes (O : p.Ok) (hb : j + pend tag ≤ p.n) (htag : tag ≠ .blk) : ∀ {m : Nat} {g : Goroutine} {w : World}, Goes P true (RC p.ty p.Wg p.C) DC0 (EJ P Post p tag j V d) m g w → EJ P Post p tag j V d g w
  | 0, g, w, h => h w (RC.refl w)
  | m + 1, g, w, h => by
    rcases h with h | ⟨hr, h⟩
    · exact h w (RC.refl w)
    · refine EJ.idle O hb htag hr fun w₁ h₁ => ?_
      have := h w₁ h₁
      cases hs : stepG P true g w₁ <;> rw [hs] at this <;> simp only [GStep.goes] at this
      obtain ⟨⟨rfl, rfl⟩, hg⟩ := this
      exact ⟨_, _, _, rfl, fun _ _ => rfl, fun e he => by simp at he, Nat.le_refl _, EJ.of_goes O hb htag hg⟩
/-- a mark that turns its ears off, or on -/
theorem EJ.dis (O : p.Ok) (hb : j + pend tag ≤ p.n) (htag : tag ≠ .blk) (hrun : g.status = .running) (h : ∀ w₁, RC p.ty p.Wg p.C w w₁ → ∃ a', stepG P true g w₁ = .go a' w₁ #[mk .disable] ∧ EJ P Post p tag j V (d + 1) a' w₁) : EJ P Post p tag j V d g w :=
  EJ.book O hb htag hrun fun w₁ st sm D hr hw hm hV => by
    obtain ⟨a', h1, h2⟩ := h w₁ hr
    exact ⟨a', w₁, _, tag, V, st, sm, h1, .refl _ w₁, bk_dis, hw, hm, hV, h2⟩
theorem EJ.ena (O : p.Ok) (hb : j + pend tag ≤ p.n) (htag : tag ≠ .blk) (hrun : g.status = .running) (ht : ∀ D st sm, ConcN.Mode j D tag st sm → ConcN.Mode j D tag' st sm) (h : ∀ w₁, RC p.ty p.Wg p.C w w₁ → ∃ a', stepG P true g w₁ = .go a' w₁ #[mk .enable] ∧ EJ P Post p tag' j V d a' w₁) : EJ P Post p tag j V (d + 1) g w :=
  EJ.book O hb htag hrun fun w₁ st sm D hr hw hm hV => by
    obtain ⟨a', h1, h2⟩ := h w₁ hr
    exact ⟨a', w₁, _, tag', V, st, sm, h1, .refl _ w₁, bk_en, hw, ht _ _ _ hm, hV, h2⟩
/-- it says that it reads, or writes, a cell of the group's -/
theorem EJ.says (O : p.Ok) (hb : j + pend tag ≤ p.n) (htag : tag ≠ .blk) (hrun : g.status = .running) (h : ∀ w₁, RC p.ty p.Wg p.C w w₁ → ∃ a' e, stepG P true g w₁ = .go a' w₁ #[e] ∧ (∃ a, (e = ⟨.mark (.read a), false, true⟩ ∨ e = ⟨.mark (.write a), false, true⟩) ∧ a.block = p.Wg) ∧ EJ P Post p tag j V d a' w₁) : EJ P Post p tag j V d g w :=
  EJ.go O hb htag hrun fun w₁ st sm D hr hw hm hV => by
    obtain ⟨a', e, h1, ⟨a, he, ha⟩, h2⟩ := h w₁ hr
    refine ⟨a', w₁, _, tag, V, st, sm, h1, fun k _ => RW.refl w₁, fun x hx => ?_, Nat.le_refl _, id, hw, hm, hV, ?_⟩
    · simp at hx
      subst hx
      have hl := wg_lt hw
      rcases he with rfl | rfl
      all_goals
        refine ⟨fun x hx => ?_, by simp, ?_⟩
        · simp only [MemAct.ofEvent, MemAct.touch?, Option.some.injEq] at hx
          subst hx
          exact ⟨fun _ => ⟨a, rfl, ha⟩, fun e => by cases e⟩
        · show a.block < _
          omega
    · have : deafBehind d #[e] = d := by rcases he with rfl | rfl <;> rfl
      rw [this]; exact h2
end
end Go.Proofs.YtdjoodbidcncaaaGreatDoor.AW

/- Goroutine 0 at the group's semaphore; then, when all is over, alone beside leavers. -/
namespace Go.Proofs.YtdjoodbidcncaaaGreatDoor.AW
open Go Go.Conc Go.ConcN
open Go.ConcR (KK wgBlock WgAt stA smA rd wr mk Payload Aside2 DC0 Bk g_of_ofEvents)
variable [Payload]
section
variable {P : Program} {Post : Value → World → Prop} {p : Ph} {j V d : Nat} {g : Goroutine} {w : World}
theorem EJ.sema (O : p.Ok) (hb : j ≤ p.n) (hrun : g.status = .running) (hoff : g.offers = none)
    (hblk : ∀ w₁, RC p.ty p.Wg p.C w w₁ → (∃ st, WgAt p.ty p.Wg w₁ st 0) → stepG P true g w₁ = .go { g with status := .blocked } w₁ #[])
    (h : ∀ w₁, RC p.ty p.Wg p.C w w₁ → WgAt p.ty p.Wg w₁ 0 1 → ∃ a', stepG P true g w₁ = .go a' (w₁.setCell (smA p.Wg) (.int .u32 0)) (semEvents (smA p.Wg)) ∧ EJ P Post p .w4 j V d a' (w₁.setCell (smA p.Wg) (.int .u32 0))) : EJ P Post p .w3 j V d g w := by
  have key : ∀ N M, (∀ gs sl T D w₁ st sm, RC p.ty p.Wg p.C w w₁ → gs[0]? = some g → Cfg P p j gs w₁ T D M → Deaf T 0 = d → WgAt p.ty p.Wg w₁ st sm → ConcN.Mode j D .w3 st sm → Vc j D ≤ V → N = gs.size → EndsF P Post (crowd gs w₁ sl) T) ∧ (∀ gs sl T D w₁ st sm, RC p.ty p.Wg p.C w w₁ → gs[0]? = some { g with status := .blocked } → Cfg P p j gs w₁ T D M → Deaf T 0 = d → WgAt p.ty p.Wg w₁ st sm → ConcN.Mode j D .blk st sm → Vc j D ≤ V → N = gs.size → EndsF P Post (crowd gs w₁ sl) T) := by
   intro N M
   induction msL_acc N M with
   | intro M _ ih =>
    have B : ∀ gs sl T D w₁ st sm, RC p.ty p.Wg p.C w w₁ → gs[0]? = some { g with status := .blocked } → Cfg P p j gs w₁ T D M → Deaf T 0 = d → WgAt p.ty p.Wg w₁ st sm → ConcN.Mode j D .blk st sm → Vc j D ≤ V → N = gs.size → EndsF P Post (crowd gs w₁ sl) T := by
      intro gs sl T D w₁ st sm hr h0 hc hd hw hm hV hN
      have hawk : awake { g with status := .blocked } := fun t => by simp
      have some1 : ∃ (i : Nat) (x : Goroutine), gs[i]? = some x ∧ x.status = .running := by
        cases hm with
        | opn h1 _ _ => exact h1.elim
        | reg _ _ h3 =>
          obtain ⟨k, hk, h5⟩ := exists_counted h3
          obtain ⟨x, t, h1, h2, _⟩ := hc.wk k hk
          exact ⟨_, x, h1, h2.run_of (by omega)⟩
        | last L _ h2 h3 _ =>
          obtain ⟨x, t, h1, h4, _⟩ := hc.wk L h2
          exact ⟨_, x, h1, h4.run_of (by omega)⟩
        | fin h1 _ => exact h1.elim
      -- as long as it sleeps the others move; the measure falls
      obtain ⟨i, x, dd, sl', hi, hx, hst⟩ := crowd_pick (P := P) (w := w₁) (sl := sl) (hc.awakes h0 hawk) some1
      rcases Nat.eq_zero_or_pos i with rfl | hpos
      · rw [h0] at hi; rw [← Option.some.inj hi] at hx; simp at hx
      · obtain ⟨g', w', es, D', M', st', sm', hgo, hrc, hlt, hw', hv', hm', hc'⟩ := oth O (hc.at dd) (by simpa [pend] using hb) (show WgAt p.ty p.Wg (w₁.at dd) st sm from hw) hm hpos hi hx
        have hi0 : (i == 0) = false := by simp; omega
        have hrunT := runT_crowd_go (P := P) (sl := sl') (i := i) hi (by rw [hi0]; exact hgo)
        refine EndsF.next (hst.trans hrunT) ?_
        have hd' : Deaf (T ++ MemOp.ofEvents i x.frame.fn x.frame.place es) 0 = d := by rw [Deaf_other T (show i ≠ 0 by omega) _ g_of_ofEvents]; exact hd
        have h0' : ((gs.map (woken P x g' w')).setIfInBounds i g')[0]? = some (woken P x g' w' { g with status := .blocked }) := by
          rw [Array.getElem?_setIfInBounds_ne (by omega), Array.getElem?_map, h0]; rfl
        by_cases hwk : (mayWake P x && g'.status != .blocked && g'.status != .waiting) = true
        · have e : woken P x g' w' { g with status := .blocked } = g := by
            unfold woken; rw [if_pos hwk]
            unfold Goroutine.again
            obtain ⟨fr, cs, stt, dy, of⟩ := g
            simp only at hrun hoff
            subst hrun; subst hoff
            rfl
          rw [e] at h0'
          exact (ih M' (hN ▸ hlt)).1 _ sl' _ D' w' st' sm' (hr.trans ((RC.at w₁ dd).trans hrc)) h0' hc' hd' hw' (hm' .w3 (.inr ⟨rfl, rfl⟩) fun _ _ => by simp) (Nat.le_trans hv' hV) (by simp [hN])
        · have e : woken P x g' w' { g with status := .blocked } = { g with status := .blocked } := by unfold woken; rw [if_neg hwk]
          rw [e] at h0'
          exact (ih M' (hN ▸ hlt)).2 _ sl' _ D' w' st' sm' (hr.trans ((RC.at w₁ dd).trans hrc)) h0' hc' hd' hw' (hm' .blk (.inl rfl) fun h1 h2 => absurd (by simp [h1, h2]) hwk) (Nat.le_trans hv' hV) (by simp [hN])
    refine ⟨fun gs sl T D w₁ st sm hr h0 hc hd hw hm hV hN => ?_, B⟩
    obtain ⟨i, x, dd, sl', hi, hx, hst⟩ := crowd_pick (P := P) (w := w₁) (sl := sl) (hc.awakes h0 (awake_of (.inl hrun))) ⟨0, g, h0, hrun⟩
    rcases Nat.eq_zero_or_pos i with rfl | hpos
    · have hr' := hr.trans (RC.at w₁ dd)
      have hlt : 0 < gs.size := (Array.getElem?_eq_some_iff.1 h0).1
      have sleep : (∃ st, WgAt p.ty p.Wg (w₁.at dd) st 0) → ConcN.Mode j D .blk st sm → EndsF P Post (crowd gs w₁ sl) T := fun h1 hm' => by
        have hrunT := runT_crowd_go (P := P) (sl := sl') (i := 0) h0 (show stepG P (0 == 0) g (w₁.at dd) = _ from hblk _ hr' h1)
        refine EndsF.next (hst.trans hrunT) (B _ sl' _ D (w₁.at dd) st sm hr' (by simp [hlt]) ((hc.at dd).own0 O (fun k _ => RW.refl _) (fun e he => by simp at he) (Nat.le_refl _) hc.pay) (by rw [Deaf_own, hd]; rfl) hw hm' hV (by simp [hN]))
      cases hm with
      | opn h1 _ _ => exact h1.elim
      | reg _ h2 h3 => exact sleep ⟨_, hw⟩ (.reg trivial h2 h3)
      | last L _ h2 h3 h4 => exact sleep ⟨_, hw⟩ (.last L trivial h2 h3 h4)
      | sema h2 =>
        obtain ⟨a', hgo, hE⟩ := h _ hr' hw
        have hA := aside_setCell (w₁.at dd) (smA p.Wg) (.int .u32 0)
        have hrunT := runT_crowd_go (P := P) (sl := sl') (i := 0) h0 (show stepG P (0 == 0) g (w₁.at dd) = _ from hgo)
        have hw' : WgAt p.ty p.Wg ((w₁.at dd).setCell (smA p.Wg) (.int .u32 0)) 0 0 := WgAt.setSm (show WgAt p.ty p.Wg (w₁.at dd) 0 1 from hw) 0
        obtain ⟨cs, hcs1, hcs2⟩ := hc.pay
        exact EndsF.next (hst.trans hrunT) (hE _ sl' _ D M _ 0 0 (RC.refl _) (by simp [hlt]) ((hc.at dd).own0 O (fun k _ => RW.of_wg hA ⟨_, _, hw'⟩ O.hCW) (fun e he => bk_evZ O (by rw [hA.size]; exact wg_lt hw) (bk_sem e he)) (Nat.le_of_eq hA.size.symm) ⟨cs, (hA.block p.C O.hCW).trans hcs1, hcs2⟩) (by rw [Deaf_own, hd]; simp [deafBehind, semEvents]) hw' (.fin trivial h2) hV)
      | fin h1 _ => exact h1.elim
    · obtain ⟨g', w', es, D', M', st', sm', hgo, hrc, hlt, hw', hv', hm', hc'⟩ := oth O (hc.at dd) (by simpa [pend] using hb) (show WgAt p.ty p.Wg (w₁.at dd) st sm from hw) hm hpos hi hx
      have hi0 : (i == 0) = false := by simp; omega
      have hrunT := runT_crowd_go (P := P) (sl := sl') (i := i) hi (by rw [hi0]; exact hgo)
      refine EndsF.next (hst.trans hrunT) ((ih M' (hN ▸ hlt)).1 _ sl' _ D' w' st' sm' (hr.trans ((RC.at w₁ dd).trans hrc)) ?_ hc' ?_ hw' (hm' .w3 (.inl rfl) fun _ _ => by simp) (Nat.le_trans hv' hV) (by simp [hN]))
      · rw [Array.getElem?_setIfInBounds_ne (by omega), Array.getElem?_map, h0]
        simp [woken_run hrun]
      · rw [Deaf_other T (show i ≠ 0 by omega) _ g_of_ofEvents]; exact hd
  intro gs sl T D M w₁ st sm hr h0 hc hd hw hm hV
  exact (key _ M).1 gs sl T D w₁ st sm hr h0 hc hd hw hm hV rfl
theorem rkE {w₀ w₁ : World} (h : RC p.ty p.Wg p.C w₀ w ∧ WgLive p.ty p.Wg w ∧ (∀ k, k < j → Has p.C k (p.val k) w) ∧ PayAt p.C p.n w) (r : AtRel w w₁) : RC p.ty p.Wg p.C w₀ w₁ ∧ WgLive p.ty p.Wg w₁ ∧ (∀ k, k < j → Has p.C k (p.val k) w₁) ∧ PayAt p.C p.n w₁ := by
  obtain ⟨d, rfl⟩ := r
  exact ⟨h.1.trans (RC.at w d), h.2⟩
/-- the group is done with: its own steps -/
theorem Ends.of_goes {S : Loc → Prop} : ∀ {m : Nat} {g : Goroutine} {w : World}, Goes P true AtRel DC0 (Ends P Post S) m g w → Ends P Post S g w
  | 0, g, w, h => by
    have _pl := (inferInstance : Payload)
    exact h w (atRel_refl w)
  | m + 1, g, w, h => by
    rcases h with h | ⟨hr, h⟩
    · exact h w (atRel_refl w)
    · refine Ends.step hr fun w₁ h₁ => ?_
      have := h w₁ h₁
      cases hs : stepG P true g w₁ <;> rw [hs] at this <;> simp only [GStep.goes] at this
      obtain ⟨⟨rfl, rfl⟩, hg⟩ := this
      exact ⟨_, _, _, rfl, Nat.le_refl _, fun e he => by simp at he, Ends.of_goes hg⟩
end
end Go.Proofs.YtdjoodbidcncaaaGreatDoor.AW

/- Goroutine 0's walk through the group's Wait, beside many workers. -/
namespace Go.Proofs.YtdjoodbidcncaaaGreatDoor.AW
open Go Go.Conc Go.ConcN Go.RowKit Go.Conc.Lib Go.ConcR.Gen Go.ConcN.Gen
open Go.ConcR (KK wgBlock WgAt stA smA rd wr mk Payload Aside2 DC0 Bk g_of_ofEvents)
variable [Payload] {L : WgLink}
section
variable {P : Program} {Post : Value → World → Prop} {p : Ph} {j V : Nat} {b₀ : Frame} {a₀ : Act} {ops₀ : Array Oper} {i₀ : Nat} {rest₀ : List Nat} {k₀ : List Item} {cs : List Frame}
set_option maxRecDepth 100000 in
set_option maxHeartbeats 8000000 in
theorem waitRoundEJ (H : WgLib P L) (O : p.Ok) (hj : j = p.n) (w₀ : World) (hT : ∀ w, RC p.ty p.Wg p.C w₀ w ∧ WgLive p.ty p.Wg w ∧ (∀ k, k < j → Has p.C k (p.val k) w) ∧ PayAt p.C p.n w → Ends P Post p.Sh (G (b₀.at (a₀.put ((ops₀[i₀]?).bind (·.dst)) (.tuple #[])) (.inRegion ops₀ rest₀ :: k₀)) cs) w)
    (ih : ∀ V', V' < V → ∀ (T : Array Value) (w : World), T.size = 84 → T[0]? = some (.pointer (some ⟨p.Wg, 0, none⟩)) → RC p.ty p.Wg p.C w₀ w ∧ WgLive p.ty p.Wg w → EJ P Post p .anch j V' 1 (G ((base L.wait).at ⟨T, []⟩ [.code (L7 L), .inLoop (L7 L), .inBlock 0]) (b₀.at a₀ (.inRegion ops₀ (i₀ :: rest₀) :: k₀) :: cs)) w)
    (T : Array Value) (w : World) (hT84 : T.size = 84) (t0 : T[0]? = some (.pointer (some ⟨p.Wg, 0, none⟩))) (hF : RC p.ty p.Wg p.C w₀ w ∧ WgLive p.ty p.Wg w) : EJ P Post p .anch j V 1 (G ((base L.wait).at ⟨T, []⟩ [.code (L7 L), .inLoop (L7 L), .inBlock 0]) (b₀.at a₀ (.inRegion ops₀ (i₀ :: rest₀) :: k₀) :: cs)) w := by
  lib_facts
  have hb : j + pend .anch ≤ p.n := by simp [pend]; omega
  obtain ⟨v0, v1, v2, v3, v4, v5, v6, v7, v8, v9, v10, v11, v12, v13, v14, v15, v16, v17, v18, v19, v20, v21, v22, v23, v24, v25, v26, v27, v28, v29, v30, v31, v32, v33, v34, v35, v36, v37, v38, v39, v40, v41, v42, v43, v44, v45, v46, v47, v48, v49, v50, v51, v52, v53, v54, v55, v56, v57, v58, v59, v60, v61, v62, v63, v64, v65, v66, v67, v68, v69, v70, v71, v72, v73, v74, v75, v76, v77, v78, v79, v80, v81, v82, v83, rfl⟩ := array84 T hT84
  simp only [List.getElem?_toArray, List.getElem?_cons_zero, Option.some.injEq] at t0
  subst t0
  simp only [L7, body_wait, waitFn, Option.getD_some]
  refine EJ.of_goes O hb (by simp) (m := 40) ?_
  (u_c stepG_block rk hF; u_c stepG_seq rk hF; u_reg rk hF; u_op rk hF; u_op rk hF; u_op rk hF; u_call H.f_uLoad (nm_uLoad L) uLoadFn rk hF; u_c stepG_seq rk hF; u_reg rk hF; u_op rk hF; u_c stepG_region_end rk hF; u_c stepG_seq rk hF; u_reg rk hF; u_op rk hF; u_op rk hF; u_op rk hF)
  refine Goes.stop (fun w₁ h₁ => ?_)
  replace hF := rk hF h₁
  clear h₁
  refine EJ.book O hb (by simp) rfl fun w₂ st sm D h₂ hw hm hV => ?_
  replace hF := rk hF h₂
  clear h₂
  obtain ⟨ho, rfl, rfl, hz⟩ := hm.open_inv trivial
  clear hz
  obtain ⟨v, hv⟩ : ∃ v, v = Vc j D := ⟨_, rfl⟩
  have hVj := Vc_le j D
  have hn := O.hn
  have hvj : v ≤ j := by omega
  replace hw : WgAt p.ty p.Wg w₂ ((v : Int) * KK) 0 := by rw [hv]; simpa [pend] using hw
  rcases Nat.eq_zero_or_pos v with rfl | hvp
  · replace hw : WgAt p.ty p.Wg w₂ 0 0 := by simpa using hw
    have hmf : ConcN.Mode j D .ke 0 0 := .fin trivial (allQuit_of ho hv.symm)
    refine ⟨_, _, _, .ke, 0, _, _, stepG_load_atomic (v := 0) rfl rfl (by k_ne) rfl H.f_loadU64 (x_loadU64_n L) (x_loadU64_b L) (x_loadU64_x L) .u64 (x_loadU64_f L) rfl hw.cellSt, .refl _ _, bk_rd, hw, hmf, Nat.le_of_eq hv.symm, ?_⟩
    clear hw hm hmf ho hv hV hVj hvj ih
    show EJ P Post p .ke j 0 1 _ _
    refine EJ.of_goes O (by simp [pend]; omega) (by simp) (m := 50) ?_
    walk_nrm
    (u_op rk hF; u_c stepG_region_end rk hF; u_c stepG_ret' rk hF; u_leave1 H.f_uLoad rk hF; u_op rk hF; u_c stepG_region_end rk hF; u_c stepG_seq rk hF; u_reg rk hF; u_op rk hF; u_op rk hF; u_op rk hF; u_op rk hF; u_c stepG_region_end rk hF; u_c stepG_seq rk hF; u_reg rk hF; u_op rk hF; u_op rk hF; u_op rk hF; u_op rk hF; u_c stepG_region_end rk hF; u_c stepG_seq rk hF; u_c stepG_seq rk hF; u_reg rk hF; u_op rk hF; u_op rk hF; u_c stepG_region_end rk hF; u_cond true rk hF; u_c stepG_seq rk hF; u_cond true rk hF; u_c stepG_seq rk hF; u_reg rk hF)
    refine Goes.stop (fun w₃ h₃ => ?_)
    replace hF := rk hF h₃
    clear h₃
    refine EJ.ena (tag' := .acq) O (by simp [pend]; omega) (by simp) rfl (fun D st sm h => by obtain ⟨h1, rfl, rfl⟩ := h.fin_inv trivial; exact .fin trivial h1) fun w₄ h₄ => ?_
    replace hF := rk hF h₄
    clear h₄
    refine ⟨_, stepG_mark0 .enable (by simp) rfl rfl (by k_ne) rfl H.f_enable (x_enable_n L) (x_enable_b L) (x_enable_x L) (x_enable_f L), ?_⟩
    refine EJ.of_goes O (by simp [pend]; omega) (by simp) (m := 12) ?_
    walk_nrm
    (u_c stepG_region_end rk hF; u_reg rk hF; u_op rk hF; u_conv H.underlying_tWgP H.room_tWg (WgLive.cell0 hF.2).choose_spec rk hF)
    refine Goes.stop (fun w₅ h₅ => ?_)
    replace hF := rk hF h₅
    clear h₅
    refine EJ.acquire O hj rfl fun w₆ h₆ hh hp => ?_
    replace hF := rk hF h₆
    clear h₆
    refine ⟨_, stepG_markAt .acquire (by simp) rfl rfl (by k_ne) rfl H.f_acquire (x_acquire_n L) (x_acquire_b L) (x_acquire_x L) (x_acquire_f L) (by simp [Act.eval, stA]), ?_⟩
    have hG : RC p.ty p.Wg p.C w₀ w₆ ∧ WgLive p.ty p.Wg w₆ ∧ (∀ k, k < j → Has p.C k (p.val k) w₆) ∧ PayAt p.C p.n w₆ := ⟨hF.1, hF.2, hh, hp⟩
    clear hF hh hp
    have hF := hG
    clear hG
    refine Ends.of_goes (m := 60) ?_
    walk_nrm
    (u_c stepG_region_end rkE hF; u_c stepG_seq rkE hF; u_c stepG_seq rkE hF; u_reg rkE hF; u_op rkE hF; u_op rkE hF; u_op rkE hF; u_op rkE hF; u_op rkE hF; u_op rkE hF; u_op rkE hF; u_op rkE hF; u_skip rkE hF; u_skip rkE hF; u_op rkE hF; u_c stepG_region_end rkE hF; u_cond false rkE hF; u_c stepG_skip rkE hF; u_c stepG_ret' rkE hF)
    u_leave0 H.f_wait rkE hF
    exact Goes.stop fun w₇ h₇ => hT _ (rkE hF h₇)
  · obtain ⟨S, hS⟩ : ∃ S : Int, (v : Int) * KK = S := ⟨_, rfl⟩
    have a1 : S / 4294967296 = (v : Int) := by rw [← hS]; simp only [KK]; omega
    have b1 : bits .and .u64 S 2147483648 = 0 := by rw [← hS]; have := st_flag v 0 (by omega) (by omega); simpa [KK] using this
    have b2 : bits .and .u64 S 2147483647 = 0 := by rw [← hS]; have := st_waiters v 0 (by omega) (by omega); simpa [KK] using this
    have c1 : IntKind.i32.wrap (v : Int) = (v : Int) := by rw [IntKind.wrap_i32]; omega
    have w1 : IntKind.u64.wrap (S + 1) = S + 1 := by rw [IntKind.wrap_u64, ← hS]; simp only [KK]; omega
    have q3 : decide ((v : Int) < 0) = false := decide_eq_false (by omega)
    have q4 : decide (0 < (v : Int)) = true := decide_eq_true (by omega)
    have q5 : ((v : Int) == 0) = false := by simp; omega
    have q6 : decide ((v : Int) = 0) = false := decide_eq_false (by omega)
    have hm2 : ConcN.Mode j D (.w2 v) S 0 := by
      have := ConcN.Mode.opn (j := j) (D := D) (tag := .w2 v) trivial ho (fun vs e => by cases e; omega)
      have e : (((Vc j D + pend (.w2 v) : Nat) : Int)) * KK = S := by rw [← hS, ← hv]; simp [pend]
      exact e ▸ this
    rw [hS] at hw
    refine ⟨_, _, _, .w2 v, v, _, _, stepG_load_atomic (v := S) rfl rfl (by k_ne) rfl H.f_loadU64 (x_loadU64_n L) (x_loadU64_b L) (x_loadU64_x L) .u64 (x_loadU64_f L) rfl hw.cellSt, .refl _ _, bk_rd, hw, hm2, Nat.le_of_eq hv.symm, ?_⟩
    have hvV : v ≤ V := by omega
    clear hw hm hm2 ho hv hV hVj D
    show EJ P Post p (.w2 v) j v 1 _ _
    refine EJ.of_goes O (by simp [pend]; omega) (by simp) (m := 60) ?_
    walk_nrm
    (u_op rk hF; u_c stepG_region_end rk hF; u_c stepG_ret' rk hF; u_leave1 H.f_uLoad rk hF; u_op rk hF; u_c stepG_region_end rk hF; u_c stepG_seq rk hF; u_reg rk hF; u_op rk hF; u_op rk hF; u_op rk hF; u_op rk hF; u_c stepG_region_end rk hF; u_c stepG_seq rk hF; u_reg rk hF; u_op rk hF; u_op rk hF; u_op rk hF; u_op rk hF; u_c stepG_region_end rk hF; u_c stepG_seq rk hF; u_c stepG_seq rk hF; u_reg rk hF; u_op rk hF; u_op rk hF; u_c stepG_region_end rk hF; u_cond false rk hF; u_c stepG_skip rk hF; u_c stepG_seq rk hF; u_reg rk hF; u_op rk hF; u_op rk hF; u_op rk hF; u_op rk hF; u_op rk hF; u_op rk hF; u_call H.f_uCas (nm_uCas L) uCasFn rk hF; u_c stepG_seq rk hF; u_reg rk hF; u_op rk hF; u_c stepG_region_end rk hF; u_c stepG_seq rk hF; u_reg rk hF; u_op rk hF; u_op rk hF; u_op rk hF; u_op rk hF; u_op rk hF)
    refine Goes.stop (fun w₃ h₃ => ?_)
    replace hF := rk hF h₃
    clear h₃
    refine EJ.book O (by simp [pend]; omega) (by simp) rfl fun w₄ st sm D h₄ hw hm hV => ?_
    replace hF := rk hF h₄
    clear h₄
    obtain ⟨ho, rfl, rfl, hz⟩ := hm.open_inv trivial
    have hz1 := hz v rfl
    clear hz
    replace hw : WgAt p.ty p.Wg w₄ ((Vc j D : Int) * KK) 0 := by simpa [pend] using hw
    by_cases e : Vc j D = v
    · rw [e, hS] at hw
      have hA := aside_setCell w₄ (stA p.Wg) (.int .u64 (S + 1))
      replace hF : RC p.ty p.Wg p.C w₀ (w₄.setCell (stA p.Wg) (.int .u64 (S + 1))) ∧ WgLive p.ty p.Wg (w₄.setCell (stA p.Wg) (.int .u64 (S + 1))) := ⟨hF.1.trans (RC.of_wg hA ⟨_, _, hw.setSt _⟩), ⟨_, _, hw.setSt _⟩⟩
      have hmr : ConcN.Mode j D .w3 (S + 1) 0 := by
        have := ConcN.Mode.reg (j := j) (D := D) (tag := .w3) trivial ho (by omega)
        rwa [e, hS] at this
      refine ⟨_, _, _, .w3, v, _, _, (stepG_cas_hit (v := S) (n := S + 1) rfl rfl (by k_ne) rfl H.f_casU64 (x_casU64_n L) (x_casU64_b L) (x_casU64_x L) .u64 (x_casU64_f L) rfl rfl rfl hw.cellSt (hw.thaw 0)).trans (by rfl), hA, bk_rw, hw.setSt _, hmr, Nat.le_of_eq e, ?_⟩
      clear hw hA hm hmr ho hz1 e hV D ih
      show EJ P Post p .w3 j v 1 _ _
      refine EJ.of_goes O (by simp [pend]; omega) (by simp) (m := 70) ?_
      walk_nrm
      (u_op rk hF; u_c stepG_region_end rk hF; u_c stepG_ret' rk hF; u_leave1 H.f_uCas rk hF; u_c stepG_region_end rk hF; u_cond true rk hF; u_c stepG_seq rk hF; u_c stepG_seq rk hF; u_reg rk hF; u_op rk hF; u_op rk hF; u_op rk hF; u_op rk hF; u_c stepG_region_end rk hF; u_cond true rk hF; u_reg rk hF; u_op rk hF; u_op rk hF; u_op rk hF; u_conv H.underlying_tPU32 H.room_tU32 (WgLive.cell1 hF.2).choose_spec rk hF)
      refine Goes.stop (fun w₅ h₅ => ?_)
      replace hF := rk hF h₅
      clear h₅
      refine EJ.says O (by simp [pend]; omega) (by simp) rfl fun w₆ h₆ => ?_
      replace hF := rk hF h₆
      clear h₆
      refine ⟨_, _, stepG_markAt .write (by simp) rfl rfl (by k_ne) rfl H.f_raceWrite (x_raceWrite_n L) (x_raceWrite_b L) (x_raceWrite_x L) (x_raceWrite_f L) (ad := ⟨p.Wg, 1, none⟩) (by simp [Act.eval]), ⟨_, .inr rfl, rfl⟩, ?_⟩
      refine EJ.of_goes O (by simp [pend]; omega) (by simp) (m := 60) ?_
      walk_nrm
      (u_c stepG_region_end rk hF; u_c stepG_seq rk hF; u_reg rk hF; u_op rk hF; u_c stepG_region_end rk hF; u_c stepG_seq rk hF; u_c stepG_seq rk hF; u_reg rk hF; u_op rk hF; u_op rk hF; u_op rk hF; u_op rk hF; u_skip rk hF; u_op rk hF; u_c stepG_region_end rk hF; u_cond false rk hF; u_c stepG_skip rk hF; u_c stepG_seq rk hF; u_reg rk hF; u_op rk hF; u_op rk hF; u_op rk hF; u_op rk hF)
      refine Goes.stop (fun w₇ h₇ => ?_)
      replace hF := rk hF h₇
      clear h₇
      refine EJ.sema O (by omega) rfl rfl (fun w₈ h₈ ⟨st, hw⟩ => stepG_semacquire_wait rfl rfl rfl H.f_semacquire (x_semacquire_n L) (x_semacquire_b L) (x_semacquire_x L) (x_semacquire_f L) (by simp [Act.eval, smA]) hw.cellSm) fun w₈ h₈ hw => ?_
      replace hF := rk hF h₈
      clear h₈
      have hA := aside_setCell w₈ (smA p.Wg) (.int .u32 0)
      replace hF : RC p.ty p.Wg p.C w₀ (w₈.setCell (smA p.Wg) (.int .u32 0)) ∧ WgLive p.ty p.Wg (w₈.setCell (smA p.Wg) (.int .u32 0)) := ⟨hF.1.trans (RC.of_wg hA ⟨_, _, hw.setSm _⟩), ⟨_, _, hw.setSm _⟩⟩
      refine ⟨_, (stepG_semacquire (n := 1) rfl rfl (by k_ne) rfl H.f_semacquire (x_semacquire_n L) (x_semacquire_b L) (x_semacquire_x L) (x_semacquire_f L) (by simp [Act.eval, smA]) hw.cellSm (by k_ne) (hw.thaw 1)).trans (by rfl), ?_⟩
      clear hw hA
      refine EJ.of_goes O (by simp [pend]; omega) (by simp) (m := 30) ?_
      walk_nrm
      (u_c stepG_region_end rk hF; u_c stepG_seq rk hF; u_reg rk hF; u_op rk hF; u_op rk hF; u_op rk hF; u_call H.f_uLoad (nm_uLoad L) uLoadFn rk hF; u_c stepG_seq rk hF; u_reg rk hF; u_op rk hF; u_c stepG_region_end rk hF; u_c stepG_seq rk hF; u_reg rk hF; u_op rk hF; u_op rk hF; u_op rk hF)
      refine Goes.stop (fun x₁ h₁ => ?_)
      replace hF := rk hF h₁
      clear h₁
      refine EJ.book O (by simp [pend]; omega) (by simp) rfl fun x₂ st sm D h₂ hw hm hV => ?_
      replace hF := rk hF h₂
      clear h₂
      obtain ⟨hq, rfl, rfl⟩ := hm.fin_inv trivial
      refine ⟨_, _, _, .ke, v, _, _, stepG_load_atomic (v := 0) rfl rfl (by k_ne) rfl H.f_loadU64 (x_loadU64_n L) (x_loadU64_b L) (x_loadU64_x L) .u64 (x_loadU64_f L) rfl hw.cellSt, .refl _ _, bk_rd, hw, .fin trivial hq, hV, ?_⟩
      clear hw hm hq hV D
      show EJ P Post p .ke j v 1 _ _
      refine EJ.of_goes O (by simp [pend]; omega) (by simp) (m := 30) ?_
      walk_nrm
      (u_op rk hF; u_c stepG_region_end rk hF; u_c stepG_ret' rk hF; u_leave1 H.f_uLoad rk hF; u_op rk hF; u_op rk hF; u_c stepG_region_end rk hF; u_c stepG_seq rk hF; u_cond true rk hF; u_c stepG_seq rk hF; u_reg rk hF)
      refine Goes.stop (fun x₃ h₃ => ?_)
      replace hF := rk hF h₃
      clear h₃
      refine EJ.ena (tag' := .acq) O (by simp [pend]; omega) (by simp) rfl (fun D st sm h => by obtain ⟨h1, rfl, rfl⟩ := h.fin_inv trivial; exact .fin trivial h1) fun x₄ h₄ => ?_
      replace hF := rk hF h₄
      clear h₄
      refine ⟨_, stepG_mark0 .enable (by simp) rfl rfl (by k_ne) rfl H.f_enable (x_enable_n L) (x_enable_b L) (x_enable_x L) (x_enable_f L), ?_⟩
      refine EJ.of_goes O (by simp [pend]; omega) (by simp) (m := 12) ?_
      walk_nrm
      (u_c stepG_region_end rk hF; u_reg rk hF; u_op rk hF; u_conv H.underlying_tWgP H.room_tWg (WgLive.cell0 hF.2).choose_spec rk hF)
      refine Goes.stop (fun w₅ h₅ => ?_)
      replace hF := rk hF h₅
      clear h₅
      refine EJ.acquire O hj rfl fun w₆ h₆ hh hp => ?_
      replace hF := rk hF h₆
      clear h₆
      refine ⟨_, stepG_markAt .acquire (by simp) rfl rfl (by k_ne) rfl H.f_acquire (x_acquire_n L) (x_acquire_b L) (x_acquire_x L) (x_acquire_f L) (by simp [Act.eval, stA]), ?_⟩
      have hG : RC p.ty p.Wg p.C w₀ w₆ ∧ WgLive p.ty p.Wg w₆ ∧ (∀ k, k < j → Has p.C k (p.val k) w₆) ∧ PayAt p.C p.n w₆ := ⟨hF.1, hF.2, hh, hp⟩
      clear hF hh hp
      have hF := hG
      clear hG
      refine Ends.of_goes (m := 60) ?_
      walk_nrm
      (u_c stepG_region_end rkE hF; u_c stepG_seq rkE hF; u_c stepG_seq rkE hF; u_reg rkE hF; u_op rkE hF; u_c stepG_region_end rkE hF; u_cond false rkE hF; u_c stepG_skip rkE hF; u_c stepG_ret' rkE hF)
      u_leave0 H.f_wait rkE hF
      exact Goes.stop fun w₇ h₇ => hT _ (rkE hF h₇)
    · refine ⟨_, _, _, .anch, Vc j D, _, _, stepG_cas_miss (v := (Vc j D : Int) * KK) (old := S) (n := S + 1) rfl rfl (by k_ne) rfl H.f_casU64 (x_casU64_n L) (x_casU64_b L) (x_casU64_x L) .u64 (x_casU64_f L) rfl rfl rfl hw.cellSt (hw.thaw 0) (by rw [← hS]; simp only [KK]; omega), .refl _ _, bk_rd, hw, ?_, Nat.le_refl _, ?_⟩
      · have := ConcN.Mode.opn (j := j) (D := D) (tag := .anch) trivial ho (fun vs e => by cases e)
        simpa [pend] using this
      replace ih := ih (Vc j D) (by omega)
      generalize Vc j D = v' at ih
      clear hw hm ho hz1 e hV D
      show EJ P Post p .anch j v' 1 _ _
      refine EJ.of_goes O hb (by simp) (m := 20) ?_
      walk_nrm
      (u_op rk hF; u_c stepG_region_end rk hF; u_c stepG_ret' rk hF; u_leave1 H.f_uCas rk hF; u_c stepG_region_end rk hF; u_cond false rk hF; u_c stepG_skip rk hF; u_c stepG_inBlock rk hF; u_c stepG_inLoop rk hF)
      exact Goes.stop fun w₅ h₅ => ih _ _ rfl rfl (rk hF h₅)
set_option maxRecDepth 100000 in
theorem waitEJ (H : WgLib P L) (O : p.Ok) (hj : j = p.n) (w₀ : World) (hT : ∀ w, RC p.ty p.Wg p.C w₀ w ∧ WgLive p.ty p.Wg w ∧ (∀ k, k < j → Has p.C k (p.val k) w) ∧ PayAt p.C p.n w → Ends P Post p.Sh (G (b₀.at (a₀.put ((ops₀[i₀]?).bind (·.dst)) (.tuple #[])) (.inRegion ops₀ rest₀ :: k₀)) cs) w)
    (w : World) (hF : RC p.ty p.Wg p.C w₀ w ∧ WgLive p.ty p.Wg w) : EJ P Post p .anch j V 0 (G ((base L.wait).at ⟨#[.pointer (some ⟨p.Wg, 0, none⟩), undef, undef, undef, undef, undef, undef, undef, undef, undef, undef, undef, undef, undef, undef, undef, undef, undef, undef, undef, undef, undef, undef, undef, undef, undef, undef, undef, undef, undef, undef, undef, undef, undef, undef, undef, undef, undef, undef, undef, undef, undef, undef, undef, undef, undef, undef, undef, undef, undef, undef, undef, undef, undef, undef, undef, undef, undef, undef, undef, undef, undef, undef, undef, undef, undef, undef, undef, undef, undef, undef, undef, undef, undef, undef, undef, undef, undef, undef, undef, undef, undef, undef, undef], []⟩ [.code (body_wait L)]) (b₀.at a₀ (.inRegion ops₀ (i₀ :: rest₀) :: k₀) :: cs)) w := by
  have ih : ∀ V, ∀ (T : Array Value) (w : World), T.size = 84 → T[0]? = some (.pointer (some ⟨p.Wg, 0, none⟩)) → RC p.ty p.Wg p.C w₀ w ∧ WgLive p.ty p.Wg w → EJ P Post p .anch j V 1 (G ((base L.wait).at ⟨T, []⟩ [.code (L7 L), .inLoop (L7 L), .inBlock 0]) (b₀.at a₀ (.inRegion ops₀ (i₀ :: rest₀) :: k₀) :: cs)) w := by
    intro V
    induction V using Nat.strongRecOn with
    | _ V ih => exact fun T w h1 h2 h3 => waitRoundEJ H O hj w₀ hT ih T w h1 h2 h3
  lib_facts
  have hb : j + pend .anch ≤ p.n := by simp [pend]; omega
  simp only [body_wait, waitFn, Option.getD_some]
  refine EJ.of_goes O hb (by simp) (m := 3) ?_
  (u_c stepG_seq rk hF; u_cond true rk hF; u_reg rk hF)
  refine Goes.stop (fun w₁ h₁ => ?_)
  replace hF := rk hF h₁
  clear h₁
  refine EJ.dis O hb (by simp) rfl fun w₂ h₂ => ?_
  replace hF := rk hF h₂
  clear h₂
  refine ⟨_, stepG_mark0 .disable (by simp) rfl rfl (by k_ne) rfl H.f_disable (x_disable_n L) (x_disable_b L) (x_disable_x L) (x_disable_f L), ?_⟩
  refine EJ.of_goes O hb (by simp) (m := 3) ?_
  walk_nrm
  (u_c stepG_region_end rk hF; u_c stepG_block rk hF; u_c stepG_loop rk hF)
  exact Goes.stop fun w₃ h₃ => ih _ _ _ rfl rfl (rk hF h₃)
end
end Go.Proofs.YtdjoodbidcncaaaGreatDoor.AW
