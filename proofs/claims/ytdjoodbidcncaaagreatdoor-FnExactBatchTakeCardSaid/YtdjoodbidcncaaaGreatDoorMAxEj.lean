/- A worker's drawn region: whatever order comes, what is done holds its fixed value. -/
import Derived.Test.YtdjoodbidcncaaaGreatDoorMAxMo
import Derived.Test.YtdjoodbidcncaaaGreatDoorMAxEa
import Derived.Conc.CompanyDraw
set_option linter.unusedVariables false
set_option linter.unusedSimpArgs false
namespace Go.Proofs.YtdjoodbidcncaaaGreatDoor.AW
open Go Go.Conc Go.ConcN
open Go.ConcR (Payload)
def Wt (P : Program) (R : World → World → Prop) (D : World → World → Array Event → Prop) (Stop : Goroutine → World → Prop) (g : Goroutine) (w : World) : Prop := ∃ t, WT P R D Stop t g w
section
variable {P : Program} {R : World → World → Prop} {D : World → World → Array Event → Prop} {Stop : Goroutine → World → Prop}
theorem Wt.step {g : Goroutine} {w : World} (hrun : g.status = .running) (h : ∀ w₁, R w w₁ → ∃ g' w' es, stepG P false g w₁ = .go g' w' es ∧ D w₁ w' es ∧ Wt P R D Stop g' w') : Wt P R D Stop g w := WT.step hrun h
/-- nothing is turned, nothing listed -/
theorem Wt.quiet (hi : ∀ w, D w w #[]) (tr : ∀ a b c, R a b → R b c → R a c) {g g' : Goroutine} {w : World} (hrun : g.status = .running) (hs : ∀ w₁, stepG P false g w₁ = .go g' w₁ #[]) (h : Wt P R D Stop g' w) : Wt P R D Stop g w :=
  Wt.step hrun fun w₁ h₁ => ⟨g', w₁, #[], hs w₁, hi _, h.choose, h.choose_spec.rely tr h₁⟩
/-- the table of a region's operations -/
structure OpsTab (ops : Array Oper) (op : Nat → Oper) : Prop where
  hop : ∀ i, i < ops.size → ops[i]? = some (op i)
  edge : ∀ i, i < ops.size → ∀ e ∈ (op i).after, Region.binds .any e = true → e.on < i
theorem OpsTab.mem_ready {ops : Array Oper} {op : Nat → Oper} {listed : Array Bool} {i : Nat} (h : OpsTab ops op) : i ∈ Region.ready .any ops listed ↔ i < ops.size ∧ listed.getD i true = false ∧ ∀ e ∈ (op i).after, Region.binds .any e = true → listed.getD e.on false = true := by
  unfold Region.ready
  rw [List.mem_filter, List.mem_range]
  constructor
  · rintro ⟨h1, h2⟩
    rw [h.hop i h1] at h2
    simp only [Option.map_some, Option.getD_some, Bool.and_eq_true, Array.all_eq_true', Bool.or_eq_true, Bool.not_eq_eq_eq_not, Bool.not_true] at h2
    refine ⟨h1, h2.1, fun e he hb => ?_⟩
    rcases h2.2 e he with g | g
    · rw [g] at hb; cases hb
    · exact g
  · rintro ⟨h1, h2, h3⟩
    refine ⟨h1, ?_⟩
    rw [h.hop i h1]
    simp only [Option.map_some, Option.getD_some, Bool.and_eq_true, Array.all_eq_true', Bool.or_eq_true, Bool.not_eq_eq_eq_not, Bool.not_true]
    refine ⟨h2, fun e he => ?_⟩
    cases hb : Region.binds .any e with
    | false => exact .inl rfl
    | true => exact .inr (h3 e he hb)
variable {ops : Array Oper} {op : Nat → Oper} {b : Frame} {k : List Item} {cs : List Frame}
theorem wt_any (h : OpsTab ops op) (St : (Nat → Bool) → Act → World → Prop)
    (step : ∀ (S : Nat → Bool) i a w rest, i < ops.size → S i = false → (∀ e ∈ (op i).after, Region.binds .any e = true → S e.on = true) → St S a w →
      (∀ a' w', St (fun x => if x = i then true else S x) a' w' → Wt P R D Stop (G (b.at a' (.inRegion ops rest :: k)) cs) w') → Wt P R D Stop (G (b.at a (.inRegion ops (i :: rest) :: k)) cs) w)
    (fin : ∀ a w, St (fun _ => true) a w → Wt P R D Stop (G (b.at a (.inRegion ops [] :: k)) cs) w) :
    ∀ (fuel t : Nat) (listed : Array Bool) (S : Nat → Bool) (a : Act) (w : World), listed.size = ops.size → listed.toList.count false = fuel → (∀ i, i < ops.size → S i = listed.getD i true) → (∀ i, ops.size ≤ i → S i = true) → St S a w →
      Wt P R D Stop (G (b.at a (.inRegion ops (Region.linearise.go .any ops fuel t listed []) :: k)) cs) w := by
  have done : ∀ (listed : Array Bool) (S : Nat → Bool) (a : Act) (w : World), listed.size = ops.size → (∀ i, i < ops.size → S i = listed.getD i true) → (∀ i, ops.size ≤ i → S i = true) → Region.ready .any ops listed = [] → St S a w →
      Wt P R D Stop (G (b.at a (.inRegion ops [] :: k)) cs) w := by
    intro listed S a w hsz hSl hSo hr hst
    have all : ∀ i, S i = true := by
      intro i
      induction i using Nat.strongRecOn with
      | _ i ih =>
        rcases Nat.lt_or_ge i ops.size with hi | hi
        · cases hs : S i with
          | true => rfl
          | false =>
            have : i ∈ Region.ready .any ops listed := h.mem_ready.2 ⟨hi, (hSl i hi) ▸ hs, fun e he hbn => by
              have hlt := h.edge i hi e he hbn
              have h1 := ih e.on hlt
              rw [hSl e.on (by omega)] at h1
              have hs' : e.on < listed.size := by omega
              simpa [Array.getD_eq_getD_getElem?, hs'] using h1⟩
            rw [hr] at this; cases this
        · exact hSo i hi
    have eS : S = fun _ => true := funext all
    subst eS
    exact fin a w hst
  intro fuel
  induction fuel with
  | zero =>
    intro t listed S a w hsz hc hSl hSo hst
    have hr : Region.ready .any ops listed = [] := by
      rw [List.eq_nil_iff_forall_not_mem]
      intro i hi
      obtain ⟨h1, h2, _⟩ := h.mem_ready.1 hi
      have := count_set (by omega) h2
      omega
    simpa [Region.linearise.go] using done listed S a w hsz hSl hSo hr hst
  | succ fuel ih =>
    intro t listed S a w hsz hc hSl hSo hst
    simp only [Region.linearise.go]
    change Wt P R D Stop (G (b.at a (.inRegion ops (match (Region.ready .any ops listed)[t % (Region.ready .any ops listed).length]? with
      | some i => Region.linearise.go .any ops fuel (t / (Region.ready .any ops listed).length) (listed.setIfInBounds i true) [i]
      | none => [].reverse) :: k)) cs) w
    cases hi : (Region.ready .any ops listed)[t % (Region.ready .any ops listed).length]? with
    | none =>
      have hnil : Region.ready .any ops listed = [] := by
        cases hr : Region.ready .any ops listed with
        | nil => rfl
        | cons x xs =>
          rw [hr] at hi
          have hlt : t % (x :: xs).length < (x :: xs).length := Nat.mod_lt _ (by simp)
          simp at hi
          simp at hlt
          omega
      simpa using done listed S a w hsz hSl hSo hnil hst
    | some i =>
      simp only []
      rw [linearise_go_acc, List.reverse_singleton, List.singleton_append]
      obtain ⟨h1, h2, h3⟩ := h.mem_ready.1 (List.mem_of_getElem? hi)
      refine step S i a w _ h1 ((hSl i h1).trans h2) (fun e he hbn => ?_) hst fun a' w' hst' => ih _ _ _ a' w' (by simpa using hsz) (by have := count_set (by omega) h2; omega) (fun x hx => ?_) (fun x hx => ?_) hst'
      · have hs' : e.on < listed.size := by have := h.edge i h1 e he hbn; omega
        rw [hSl e.on (by omega)]
        simpa [Array.getD_eq_getD_getElem?, hs'] using h3 e he hbn
      · by_cases e : x = i
        · subst e; simp [Array.getD_eq_getD_getElem?, hsz, hx]
        · rw [if_neg e, hSl x hx]; simp [Array.getD_eq_getD_getElem?, Array.getElem?_setIfInBounds_ne (Ne.symm e)]
      · by_cases e : x = i
        · simp [e]
        · simp [e, hSo x hx]
/-- the region, from its head -/
theorem wt_region (hm : P.follows .mixedOrders = true) (hd : ∀ w : World, D w { w with drawn := w.drawn + 1 } #[]) (h : OpsTab ops op) (St : (Nat → Bool) → Act → World → Prop) {id : Nat} {a : Act} {w : World}
    (start : ∀ w₁, R w w₁ → St (fun x => decide (ops.size ≤ x)) a { w₁ with drawn := w₁.drawn + 1 })
    (step : ∀ (S : Nat → Bool) i a w rest, i < ops.size → S i = false → (∀ e ∈ (op i).after, Region.binds .any e = true → S e.on = true) → St S a w →
      (∀ a' w', St (fun x => if x = i then true else S x) a' w' → Wt P R D Stop (G (b.at a' (.inRegion ops rest :: k)) cs) w') → Wt P R D Stop (G (b.at a (.inRegion ops (i :: rest) :: k)) cs) w)
    (fin : ∀ a w, St (fun _ => true) a w → Wt P R D Stop (G (b.at a (.inRegion ops [] :: k)) cs) w) : Wt P R D Stop (G (b.at a (.code (.region id ops true) :: k)) cs) w :=
  Wt.step rfl fun w₁ h₁ => ⟨_, _, #[], stepG_region_draw, hd w₁, by
    have e : Region.schedule (P.follows .mixedOrders) ops (w₁.tape w₁.drawn (.order b.fn id)) = Region.linearise .any ops (w₁.tape w₁.drawn (.order b.fn id)) := by simp [Region.schedule, hm]
    rw [e]
    exact wt_any h St step fin _ _ _ _ a _ (by simp) (by simp) (fun i hi => by simp [Array.getD_eq_getD_getElem?, hi]) (fun i hi => by simp [hi]) (start w₁ h₁)⟩
end
end Go.Proofs.YtdjoodbidcncaaaGreatDoor.AW

/- A worker's walk, step by step, without counts; the group's Done. -/
namespace Go.Proofs.YtdjoodbidcncaaaGreatDoor.AW
open Go Go.Conc Go.ConcN Go.RowKit Go.Conc.Lib Go.ConcR.Gen Go.ConcN.Gen
open Go.ConcR (KK wgBlock WgAt stA smA rd wr mk Payload Aside2 DC0 Bk g_of_ofEvents)
theorem goes_ex {r : GStep} {K : Goroutine → World → Array Event → Prop} (h : r.goes K) : ∃ g' w' es, r = .go g' w' es ∧ K g' w' es := by
  cases r <;> simp only [GStep.goes] at h
  exact ⟨_, _, _, rfl, h⟩
section
variable {P : Program} {R : World → World → Prop} {D : World → World → Array Event → Prop} {Stop : Goroutine → World → Prop}
theorem Wt.go {g : Goroutine} {w : World} (hrun : g.status = .running) (h : ∀ w₁, R w w₁ → (stepG P false g w₁).goes fun g' w' es => D w₁ w' es ∧ Wt P R D Stop g' w') : Wt P R D Stop g w :=
  Wt.step hrun fun w₁ h₁ => by obtain ⟨g', w', es, e1, e2, e3⟩ := goes_ex (h w₁ h₁); exact ⟨g', w', es, e1, e2, e3⟩
end
variable [Payload] {L : WgLink}
section
variable {P : Program} {p : Ph} {j : Nat} {v : Value} {D1 : World → World → Array Event → Prop} {n : Nat} {g : Goroutine} {w : World}
/-- what the library says of the walk to its first stop says it of ours, too, which lists nothing on the way -/
def Mg (P : Program) (p : Ph) (j : Nat) (v : Value) (D1 : World → World → Array Event → Prop) (n : Nat) (g : Goroutine) (w : World) : Prop :=
  Goes P false (RWk p j) D1 (AtR0 P p.ty p.Wg p.C p.n (p.Lw (j + 1)) (j + 1) v) n g w → Wt P (RWk p j) (DWk p j) (AtR0 P p.ty p.Wg p.C p.n (p.Lw (j + 1)) (j + 1) v) g w
theorem dwk_idle (w : World) : DWk p j w w #[] := ⟨AsideCell.refl _ _ _ w, fun e he => by simp at he⟩
theorem Mg.step (hrun : g.status = .running) (h : ∀ w₁, RWk p j w w₁ → (stepG P false g w₁).goes fun g' w' es => DC0 w₁ w' es ∧ Mg P p j v D1 n g' w') : Mg P p j v D1 (n + 1) g w := by
  intro G
  refine Wt.step hrun fun w₁ h₁ => ?_
  obtain ⟨g', w', es, e1, ⟨rfl, rfl⟩, e3⟩ := goes_ex (h w₁ h₁)
  refine ⟨g', w', #[], e1, dwk_idle w', e3 ?_⟩
  rcases G with G | ⟨_, G⟩
  · obtain ⟨_, _, g₂, e4, _⟩ := G w' h₁
    rw [e1] at e4; simp at e4
  · have := G w' h₁
    rw [e1] at this
    simp only [goes_go] at this
    exact this.2
/-- from here on it does not stop -/
def Nv (P : Program) (p : Ph) (j : Nat) (v : Value) (D1 : World → World → Array Event → Prop) : Nat → Goroutine → World → Prop := fun n g w =>
  ¬ Goes P false (RWk p j) D1 (AtR0 P p.ty p.Wg p.C p.n (p.Lw (j + 1)) (j + 1) v) n g w
theorem Nv.step (hrun : g.status = .running) (h : ∀ w₁, RWk p j w w₁ → (stepG P false g w₁).goes fun g' w' es => DC0 w₁ w' es ∧ Nv P p j v D1 n g' w') : Nv P p j v D1 (n + 1) g w := by
  intro G
  obtain ⟨g', w', es, e1, ⟨rfl, rfl⟩, e3⟩ := goes_ex (h w (RW.refl w))
  rcases G with G | ⟨_, G⟩
  · obtain ⟨_, _, g₂, e4, _⟩ := G w' (RW.refl _)
    rw [e1] at e4; simp at e4
  · have := G w' (RW.refl _)
    rw [e1] at this
    simp only [goes_go] at this
    exact e3 this.2
theorem Nv.mark {e : Event} {g' : Goroutine} (he : e ≠ mk (.releaseMerge (stA p.Wg))) (h : stepG P false g w = .go g' w #[e]) (hn : Nv P p j v D1 n g' w) : Nv P p j v D1 (n + 1) g w := by
  intro G
  rcases G with G | ⟨_, G⟩
  · obtain ⟨_, _, g₂, e4, _⟩ := G w (RW.refl _)
    rw [h] at e4; simp at e4; exact he e4.2
  · have := G w (RW.refl _)
    rw [h] at this
    simp only [goes_go] at this
    exact hn this.2
theorem Nv.zero {es : Array Event} {g' : Goroutine} {w' : World} (he : es ≠ #[mk (.releaseMerge (stA p.Wg))]) (h : stepG P false g w = .go g' w' es) : Nv P p j v D1 0 g w := by
  intro G
  obtain ⟨_, _, g₂, e4, _⟩ := G w (RW.refl _)
  rw [h] at e4; simp at e4; exact he e4.2.2
theorem Mg.last {g' : Goroutine} (h : stepG P false g w = .go g' w #[mk (.releaseMerge (stA p.Wg))]) (hn : Nv P p j v D1 n g' w) : Mg P p j v D1 (n + 1) g w := by
  intro G
  rcases G with G | ⟨_, G⟩
  · exact ⟨_, WT.stop G |>.choose_spec⟩
  · have := G w (RW.refl _)
    rw [h] at this
    simp only [goes_go] at this
    exact absurd this.2 hn
theorem rwl {w₁ : World} (h : WgLive p.ty p.Wg w) (r : RWk p j w w₁) : WgLive p.ty p.Wg w₁ := r.live h
set_option maxRecDepth 100000 in
set_option maxHeartbeats 4000000 in
theorem doneMg (H : WgLib P L) {c : Frame} {cs : List Frame} (w : World) (hF : WgLive p.ty p.Wg w) :
    Mg P p j v D1 23 (G ((baseD L.done).at ⟨#[.pointer (some ⟨p.Wg, 0, none⟩), undef, undef, undef], []⟩ [.code (body_done L)]) (c :: cs)) w := by
  lib_facts
  simp only [body_done, doneFn, Option.getD_some]
  ((refine Mg.step rfl (fun _ h₁ => ?_); replace hF := rwl hF h₁; clear h₁; rw [stepG_region]; simp only [goes_go, List.size_toArray, List.length_cons, List.length_nil, Nat.reduceAdd, Nat.zero_add, List.range, List.range.loop]; refine ⟨by (refine dc0_none ?_; intro e he; simp at he), ?_⟩); (refine Mg.step rfl (fun _ h₁ => ?_); replace hF := rwl hF h₁; clear h₁; refine goes_oper_k rfl rfl (by k_ne) (fun K hK => ?_); go_simp; refine hK _ _ ⟨?_, ?_⟩; (· (refine dc0_none ?_; intro e he; have hm := mem_listed he; simp [go_sem, *] at hm)); clear hK K; (try w_num)); (refine Mg.step rfl (fun _ h₁ => ?_); replace hF := rwl hF h₁; clear h₁; refine goes_call rfl rfl (by k_ne) rfl H.f_add (nm_add L) rfl ⟨by (refine dc0_none ?_; intro e he; simp at he), ?_⟩; walk_nrmf addFn); (refine Mg.step rfl (fun _ h₁ => ?_); replace hF := rwl hF h₁; clear h₁; rw [stepG_seq]; simp only [goes_go]; refine ⟨by (refine dc0_none ?_; intro e he; simp at he), ?_⟩); (refine Mg.step rfl (fun _ h₁ => ?_); replace hF := rwl hF h₁; clear h₁; rw [stepG_cond (t := true) rfl]; simp only [goes_go, if_true, if_false, Bool.false_eq_true, ↓reduceIte]; refine ⟨by (refine dc0_none ?_; intro e he; simp at he), ?_⟩); (refine Mg.step rfl (fun _ h₁ => ?_); replace hF := rwl hF h₁; clear h₁; rw [stepG_seq]; simp only [goes_go]; refine ⟨by (refine dc0_none ?_; intro e he; simp at he), ?_⟩); (refine Mg.step rfl (fun _ h₁ => ?_); replace hF := rwl hF h₁; clear h₁; rw [stepG_seq]; simp only [goes_go]; refine ⟨by (refine dc0_none ?_; intro e he; simp at he), ?_⟩); (refine Mg.step rfl (fun _ h₁ => ?_); replace hF := rwl hF h₁; clear h₁; rw [stepG_region]; simp only [goes_go, List.size_toArray, List.length_cons, List.length_nil, Nat.reduceAdd, Nat.zero_add, List.range, List.range.loop]; refine ⟨by (refine dc0_none ?_; intro e he; simp at he), ?_⟩); (refine Mg.step rfl (fun _ h₁ => ?_); replace hF := rwl hF h₁; clear h₁; refine goes_oper_k rfl rfl (by k_ne) (fun K hK => ?_); go_simp; refine hK _ _ ⟨?_, ?_⟩; (· (refine dc0_none ?_; intro e he; have hm := mem_listed he; simp [go_sem, *] at hm)); clear hK K; (try w_num)); (refine Mg.step rfl (fun _ h₁ => ?_); replace hF := rwl hF h₁; clear h₁; refine goes_oper_k rfl rfl (by k_ne) (fun K hK => ?_); go_simp; refine hK _ _ ⟨?_, ?_⟩; (· (refine dc0_none ?_; intro e he; have hm := mem_listed he; simp [go_sem, *] at hm)); clear hK K; (try w_num)); (refine Mg.step rfl (fun _ h₁ => ?_); replace hF := rwl hF h₁; clear h₁; rw [stepG_region_end]; simp only [goes_go]; refine ⟨by (refine dc0_none ?_; intro e he; simp at he), ?_⟩); (refine Mg.step rfl (fun _ h₁ => ?_); replace hF := rwl hF h₁; clear h₁; rw [stepG_cond (t := true) rfl]; simp only [goes_go, if_true, if_false, Bool.false_eq_true, ↓reduceIte]; refine ⟨by (refine dc0_none ?_; intro e he; simp at he), ?_⟩); (refine Mg.step rfl (fun _ h₁ => ?_); replace hF := rwl hF h₁; clear h₁; rw [stepG_region]; simp only [goes_go, List.size_toArray, List.length_cons, List.length_nil, Nat.reduceAdd, Nat.zero_add, List.range, List.range.loop]; refine ⟨by (refine dc0_none ?_; intro e he; simp at he), ?_⟩); (refine Mg.step rfl (fun _ h₁ => ?_); replace hF := rwl hF h₁; clear h₁; refine goes_oper_k rfl rfl (by k_ne) (fun K hK => ?_); go_simp; refine hK _ _ ⟨?_, ?_⟩; (· (refine dc0_none ?_; intro e he; have hm := mem_listed he; simp [go_sem, *] at hm)); clear hK K; (try w_num)); (refine Mg.step rfl (fun _ h₁ => ?_); replace hF := rwl hF h₁; clear h₁; refine goes_oper_k rfl rfl (by k_ne) (fun Kx hKx => ?_); have hcv := run_convert_to_unsafe (P := P) H.underlying_tWgP H.underlying_tUP H.room_tWg (WgLive.cell0 hF).choose_spec; have hce := fun es => events_convert_to_unsafe (P := P) H.underlying_tWgP H.underlying_tUP H.room_tWg (WgLive.cell0 hF).choose_spec es; go_simp; refine hKx _ _ ⟨?_, ?_⟩; (· (refine dc0_none ?_; intro ex hex; have hmx := mem_listed hex; simp [go_sem, hce] at hmx)); clear hKx Kx hcv hce))
  refine Mg.last (stepG_markAt .releaseMerge (by simp) rfl rfl (by k_ne) rfl H.f_relMerge (x_relMerge_n L) (x_relMerge_b L) (x_relMerge_x L) (x_relMerge_f L) (by simp [Act.eval, stA])) ?_
  walk_nrm
  ((refine Nv.step rfl (fun _ h₁ => ?_); replace hF := rwl hF h₁; clear h₁; rw [stepG_region_end]; simp only [goes_go]; refine ⟨by (refine dc0_none ?_; intro e he; simp at he), ?_⟩); (refine Nv.step rfl (fun _ h₁ => ?_); replace hF := rwl hF h₁; clear h₁; rw [stepG_seq]; simp only [goes_go]; refine ⟨by (refine dc0_none ?_; intro e he; simp at he), ?_⟩); (refine Nv.step rfl (fun _ h₁ => ?_); replace hF := rwl hF h₁; clear h₁; rw [stepG_region]; simp only [goes_go, List.size_toArray, List.length_cons, List.length_nil, Nat.reduceAdd, Nat.zero_add, List.range, List.range.loop]; refine ⟨by (refine dc0_none ?_; intro e he; simp at he), ?_⟩))
  refine Nv.mark (by simp [mk]) (stepG_mark0 .disable (by simp) rfl rfl (by k_ne) rfl H.f_disable (x_disable_n L) (x_disable_b L) (x_disable_x L) (x_disable_f L)) ?_
  walk_nrm
  ((refine Nv.step rfl (fun _ h₁ => ?_); replace hF := rwl hF h₁; clear h₁; rw [stepG_region_end]; simp only [goes_go]; refine ⟨by (refine dc0_none ?_; intro e he; simp at he), ?_⟩); (refine Nv.step rfl (fun _ h₁ => ?_); replace hF := rwl hF h₁; clear h₁; rw [stepG_region]; simp only [goes_go, List.size_toArray, List.length_cons, List.length_nil, Nat.reduceAdd, Nat.zero_add, List.range, List.range.loop]; refine ⟨by (refine dc0_none ?_; intro e he; simp at he), ?_⟩); (refine Nv.step rfl (fun _ h₁ => ?_); replace hF := rwl hF h₁; clear h₁; rw [stepG_defer rfl rfl (by k_ne) rfl]; simp only [goes_go]; refine ⟨by (refine dc0_none ?_; intro e he; simp at he), ?_⟩; walk_nrm))
  exact Nv.zero (by simp) stepG_region_end
/-- ████ the group's Done, as a worker's last call ████ -/
theorem doneWt (H : WgLib P L) (hty : p.ty = L.tWg) {c : Frame} {cs : List Frame} {qt : Nat} (hcm : c.mode = .returning) (hT : QuitsD P qt 0 (G c cs)) (w : World) (hK : WgLive p.ty p.Wg w) (hH : Has p.C j v w) :
    Wt P (RWk p j) (DWk p j) (AtR0 P p.ty p.Wg p.C p.n (p.Lw (j + 1)) (j + 1) v) (G ((baseD L.done).at ⟨#[.pointer (some ⟨p.Wg, 0, none⟩), undef, undef, undef], []⟩ [.code (body_done L)]) (c :: cs)) w := by
  have := doneN (Own := fun _ _ => False) (Rd := fun _ _ => False) (Wg := p.Wg) (C := p.C) (n := p.n) (Low := p.Lw (j + 1)) (k := j + 1) (val := v) H hcm hT w ⟨hty ▸ hK, hH⟩
  rw [← hty] at this
  exact doneMg (D1 := DWs p.Wg (fun _ _ => False) (fun _ _ => False) p.C p.n (j + 1)) H w hK this
end
end Go.Proofs.YtdjoodbidcncaaaGreatDoor.AW
