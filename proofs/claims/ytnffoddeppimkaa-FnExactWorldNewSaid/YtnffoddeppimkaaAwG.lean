/- Operations: values built, rows made, rows grown. -/
import Derived.Test.YtnffoddeppimkaaAwF
namespace Go.Proofs.Ytnffoddeppimkaa.AW
open Go

theorem HInv.lt {E : Emb} {H : Nat → Option Block} {w : World} (h : HInv E H w) {x : Nat} {X : Block} (hx : H x = some X) (hg : ¬ E.gh x) : E.blk x < w.heap.size := by
  cases X with
  | box cs => obtain ⟨_, c, p, _⟩ := h.hp x _ hx; exact p.lt
  | row st es =>
    rcases h.hp x _ hx with ⟨g, _⟩ | ⟨_, c, p, _⟩
    · exact (hg g).elim
    · exact p.lt

/-! blocks handed over to what is read only -/
def Emb.frz (E : Emb) (ns : List Nat) : Emb := { E with pr := fun r => E.pr r ∨ ∃ b ∈ ns, ¬ E.gh b ∧ r = E.blk b, fr := fun r => E.fr r ∨ ∃ b ∈ ns, ¬ E.gh b ∧ r = E.blk b }
def gone (ns : List Nat) : List (Nat × Option Block) := ns.map fun b => (b, none)
theorem updH_gone : ∀ (ns : List Nat) (H : Nat → Option Block) (x : Nat), updH H (gone ns) x = if x ∈ ns then none else H x
  | [], H, x => by simp [gone, updH]
  | b :: ns, H, x => by
    have := updH_gone ns (setH H b none) x
    simp only [gone, List.map_cons, updH] at this ⊢
    rw [this]
    by_cases e : x ∈ ns
    · simp [e]
    · by_cases e2 : x = b <;> simp [e, e2, setH]
theorem updH_app : ∀ (l l' : List (Nat × Option Block)) (H : Nat → Option Block), updH H (l ++ l') = updH (updH H l) l'
  | [], _, _ => rfl
  | p :: l, l', H => by simp only [List.cons_append, updH]; exact updH_app l l' _
theorem HInv.frz {E : Emb} {H : Nat → Option Block} {w : World} (h : HInv E H w) (ns : List Nat) (hn : ∀ b ∈ ns, ∃ B, H b = some B) : HInv (E.frz ns) (updH H (gone ns)) w ∧ Ext E.U E w (E.frz ns) w := by
  have f : ∀ x X, updH H (gone ns) x = some X → x ∉ ns ∧ H x = some X := fun x X hx => by
    rw [updH_gone] at hx
    split at hx
    · cases hx
    · exact ⟨by assumption, hx⟩
  refine ⟨⟨fun x X hx => ?_, fun x X hx => ?_, fun x y X Y hx hy gx gy e => h.inj x y X Y (f x X hx).2 (f y Y hy).2 gx gy e, fun r hr => hr.imp (h.prfr r) id, fun r hr => ?_⟩, ⟨fun _ _ => rfl, fun _ h => .inl h, fun _ h => .inl h, Nat.le_refl _, fun _ _ => ⟨rfl, rfl, .rfl⟩, fun b hb hg => .inr ⟨b, hb, hg, rfl⟩, fun r hr => hr.imp id fun ⟨b, hb, hg, e⟩ => .inr ⟨b, (hn b hb).elim fun B hB => (h.un b B hB).1, hg, e⟩, ⟨rfl, rfl, rfl⟩⟩⟩
  · obtain ⟨_, hx⟩ := f x X hx
    exact (h.hp x X hx).mono (E' := E.frz ns) (fun _ _ => rfl) (fun _ h => .inl h) (fun _ h => ⟨h, rfl, rfl, .rfl⟩) (h.un x X hx).1 (fun _ => rfl)
  · obtain ⟨hne, hx⟩ := f x X hx
    refine ⟨(h.un x X hx).1, fun hg hf => ?_⟩
    rcases hf with hf | ⟨b, hb, gb, e⟩
    · exact (h.un x X hx).2 hg hf
    · obtain ⟨B, hB⟩ := hn b hb
      exact hne (h.inj x b X B hx hB hg gb e ▸ hb)
  · rcases hr with hr | ⟨b, hb, gb, e⟩
    · exact h.frlt r hr
    · obtain ⟨B, hB⟩ := hn b hb
      exact e ▸ h.lt hB gb

/-- a slice of a row of one's own, read only from now on -/
theorem own_ro {E : Emb} {H : Nat → Option Block} {w : World} (h : HInv E H w) {b st o n : Nat} {cap : Option Nat} {es : List (List CV)} {u : Value} (hb : H b = some (.row st es)) (hr : RepA w E (.own b st o n cap) u) (hl : o + n ≤ es.length)
    {pr : Nat → Prop} (hp : ∀ r, E.pr r → pr r) (hpb : ¬ E.gh b → pr (E.blk b)) : RepC w pr (.ro st ((es.drop o).take n) cap) u := by
  obtain ⟨c, a, rfl, hU, hnc, hcap, hh⟩ := rep_own hr
  have hlen : n = ((es.drop o).take n).length := by simp; omega
  have hst : ∀ e ∈ es, e.length = st := by
    rcases h.hp b _ hb with ⟨_, he⟩ | ⟨_, cells, p, hs, hle, hel, hc⟩
    · subst he; simp
    · exact hel
  rcases hh with ⟨hg, rfl, hsz⟩ | ⟨hg, h0, rfl⟩
  · obtain ⟨_, cells, p, hs, hle, hel, hc⟩ := (h.hp b _ hb).resolve_left fun g => hg g.1
    refine .ro st _ cap _ n c (fun i k => cells.getD ((o + i) * st + k) undef) hlen hnc hcap (fun e he => hel e (List.mem_of_mem_drop (List.mem_of_mem_take he))) (fun i e he => ?_) (fun i e k x he hx => (hc (o + i) e k x (take_drop_get he).1 hx).mono (fun _ _ => rfl) hp)
    refine ⟨_, rfl, rfl, hpb hg, fun k x hx => ?_⟩
    obtain ⟨h1, h2⟩ := take_drop_get he
    have hel' := hel e (List.mem_of_getElem? h1)
    have hk := (List.getElem?_eq_some_iff.1 hx).1
    have hi := (List.getElem?_eq_some_iff.1 h1).1
    have hm : (o + i + 1) * st ≤ es.length * st := Nat.mul_le_mul_right _ hi
    rw [Nat.succ_mul] at hm
    have hlt : (o + i) * st + k < cells.size := by omega
    have e1 : o * st + (i * st + k) = (o + i) * st + k := by rw [Nat.add_mul]; omega
    simp only [cellAt, p.cell, e1]
    simp [Array.getD_eq_getD_getElem?, hlt]
  · subst h0
    exact .ro st _ cap _ 0 0 (fun _ _ => undef) (by simp) (Nat.le_refl _) hcap (by simp) (by simp) (by simp)

/-- cells closed: rows of one's own in them are handed over -/
def vFrz (H : Nat → Option Block) : List AV → (List CV → List Nat → Prop) → Prop
  | [], K => K [] []
  | .cv c :: l, K => vFrz H l fun r ns => K (c :: r) ns
  | .own b st o n cap :: l, K => match H b with
    | some (.row st' es) => ck (st == st') <| o + n ≤ es.length ∧ vFrz H l fun r ns => K (.ro st ((es.drop o).take n) cap :: r) (b :: ns)
    | _ => False
  | _ :: _, _ => False
theorem vFrz_out {H : Nat → Option Block} : ∀ {l : List AV} {K : List CV → List Nat → Prop}, vFrz H l K → ∃ r ns, K r ns ∧ r.length = l.length ∧ (∀ b ∈ ns, ∃ B, H b = some B) ∧
    ∀ (H' : Nat → Option Block), (∀ b ∈ ns, H' b = H b) → ∀ E w, HInv E H' w → ∀ (pr : Nat → Prop), (∀ r, E.pr r → pr r) → (∀ b ∈ ns, ¬ E.gh b → pr (E.blk b)) → ∀ (k : Nat) (x : CV), r[k]? = some x → ∃ y, l[k]? = some y ∧ ∀ u, RepA w E y u → RepC w pr x u
  | [], K, h => ⟨[], [], h, rfl, by simp, fun _ _ _ _ _ _ _ _ k x hx => by simp at hx⟩
  | x :: l, K, h => by
    have step : ∀ {c : CV} {ms : List Nat}, vFrz H l (fun r ns => K (c :: r) (ms ++ ns)) → (∀ b ∈ ms, ∃ B, H b = some B) →
        (∀ (H' : Nat → Option Block), (∀ b ∈ ms, H' b = H b) → ∀ E w, HInv E H' w → ∀ (pr : Nat → Prop), (∀ r, E.pr r → pr r) → (∀ b ∈ ms, ¬ E.gh b → pr (E.blk b)) → ∀ u, RepA w E x u → RepC w pr c u) →
        ∃ r ns, K r ns ∧ r.length = (x :: l).length ∧ (∀ b ∈ ns, ∃ B, H b = some B) ∧
          ∀ (H' : Nat → Option Block), (∀ b ∈ ns, H' b = H b) → ∀ E w, HInv E H' w → ∀ (pr : Nat → Prop), (∀ r, E.pr r → pr r) → (∀ b ∈ ns, ¬ E.gh b → pr (E.blk b)) → ∀ (k : Nat) (z : CV), r[k]? = some z → ∃ y, (x :: l)[k]? = some y ∧ ∀ u, RepA w E y u → RepC w pr z u := fun {c ms} g hm hx => by
      obtain ⟨r, ns, h1, h2, h3, h4⟩ := vFrz_out g
      refine ⟨c :: r, ms ++ ns, h1, by simp [h2], fun b hb => (List.mem_append.1 hb).elim (hm b) (h3 b), fun H' hH E w hi pr hp hpb k z hz => ?_⟩
      cases k with
      | zero =>
        simp only [List.getElem?_cons_zero, Option.some.injEq] at hz
        subst hz
        exact ⟨x, rfl, hx H' (fun b hb => hH b (List.mem_append.2 (.inl hb))) E w hi pr hp fun b hb => hpb b (List.mem_append.2 (.inl hb))⟩
      | succ k =>
        simp only [List.getElem?_cons_succ] at hz ⊢
        exact h4 H' (fun b hb => hH b (List.mem_append.2 (.inr hb))) E w hi pr hp (fun b hb => hpb b (List.mem_append.2 (.inr hb))) k z hz
    cases x with
    | cv c => exact step (ms := []) h (by simp) fun H' _ E w _ pr hp _ u hu => by cases hu with | cv _ _ hc => exact hc.mono (fun _ _ => rfl) hp
    | own b st o n cap =>
      simp only [vFrz] at h
      split at h
      · rename_i st' es hb
        replace h := ck_out h
        obtain ⟨hst, hl, h⟩ := h
        have hst : st = st' := by simpa using hst
        subst hst
        exact step (ms := [b]) h (by simpa using ⟨_, hb⟩) fun H' hH E w hi pr hp hpb u hu => own_ro hi ((hH b (by simp)).trans hb) hu hl hp (hpb b (by simp))
      · exact h.elim
    | _ => exact h.elim

/-! parts laid into cells -/
theorem foldSet_get (off : Nat) : ∀ (l : List Value) (j0 : Nat) (cells : Array Value), off + j0 + l.length ≤ cells.size →
    ((l.zipIdx j0).foldl (fun (cs : Array Value) (p : Value × Nat) => cs.setIfInBounds (off + p.2) p.1) cells).size = cells.size ∧
    ∀ q, ((l.zipIdx j0).foldl (fun (cs : Array Value) (p : Value × Nat) => cs.setIfInBounds (off + p.2) p.1) cells).getD q undef = if off + j0 ≤ q ∧ q < off + j0 + l.length then l.getD (q - (off + j0)) undef else cells.getD q undef
  | [], j0, cells, _ => ⟨rfl, fun q => by simp; omega⟩
  | v :: l, j0, cells, h => by
    simp only [List.length_cons] at h
    obtain ⟨h1, h2⟩ := foldSet_get off l (j0 + 1) (cells.setIfInBounds (off + j0) v) (by simp; omega)
    refine ⟨by simpa [List.zipIdx_cons] using h1, fun q => ?_⟩
    simp only [List.zipIdx_cons, List.foldl_cons]
    rw [h2 q]
    by_cases e : q = off + j0
    · subst e
      rw [if_neg (by omega), if_pos (by simp)]
      simp [Array.getD_eq_getD_getElem?, show off + j0 < cells.size by omega]
    · by_cases e2 : off + (j0 + 1) ≤ q ∧ q < off + (j0 + 1) + l.length
      · rw [if_pos e2, if_pos (by simp; omega)]
        obtain ⟨d, hd⟩ : ∃ d, q - (off + j0) = d + 1 := ⟨q - (off + j0) - 1, by omega⟩
        rw [hd, show q - (off + (j0 + 1)) = d by omega]
        rfl
      · rw [if_neg e2, if_neg (by simp; omega)]
        simp only [Array.getD_eq_getD_getElem?]
        rw [Array.getElem?_setIfInBounds_ne (Ne.symm e)]
theorem fill_one {v : Value} {cells : Array Value} {off : Nat} (h : off + v.cells.size ≤ cells.size) : ∃ cells', v.cells.zipIdx.foldl (fun (cs : Array Value) (p : Value × Nat) => cs.setIfInBounds (off + p.2) p.1) cells = cells' ∧ cells'.size = cells.size ∧
    ∀ q, cells'.getD q undef = if off ≤ q ∧ q < off + v.cells.size then v.cells.getD (q - off) undef else cells.getD q undef := by
  obtain ⟨h1, h2⟩ := foldSet_get off v.cells.toList 0 cells (by simpa using h)
  refine ⟨_, rfl, ?_, fun q => ?_⟩
  · rw [← Array.foldl_toList, Array.toList_zipIdx]; exact h1
  · have := h2 q
    rw [← Array.foldl_toList, Array.toList_zipIdx, this]
    simp [List.getD, Array.getD_eq_getD_getElem?]

section
variable {C : Ctx} {o : Oper} {N : Nat} {T : Nat → AV} {H : Nat → Option Block}

/-- a struct's value out of its parts -/
def vParts (C : Ctx) (fs : List (Nat × Nat)) : List (Nat × AV) → List AV → (List AV → Prop) → Prop
  | [], cs, K => K cs
  | (f, x) :: l, cs, K => match fs[f]? with
    | some (off, ft) => match C.ti ft, cellsA x with
      | some i, some c => ck (c.length == i.sz && decide (off + c.length ≤ cs.length)) <| vParts C fs l (splice cs off c) K
      | _, _ => False
    | none => False
def allTi (C : Ctx) (fs : List (Nat × Nat)) : Bool := fs.all fun p => (C.ti p.2).isSome
def vBuild (C : Ctx) (t : TypeId) (ps : List (Nat × AV)) (K : Eff → Prop) : Prop := match C.ti t, C.kd t with
  | some i, some (.strct fs) => ck (allTi C fs) <| vParts C fs ps (zeroA i) fun cs => K ⟨.agg cs, [], [], []⟩
  | _, _ => False
theorem vParts_out {fs : List (Nat × Nat)} {places : Array (Nat × Nat)} (hpl : ∀ (f off ft : Nat), fs[f]? = some (off, ft) → ∀ i, C.ti ft = some i → places[f]? = some (off, i.sz)) : ∀ {ps : List (Nat × AV)} {cs : List AV} {K : List AV → Prop}, vParts C fs ps cs K → ∃ r, K r ∧
    ∀ (E : Emb) (w : World) (vs : List (Nat × Value)) (cells : Array Value), vs.length = ps.length → (∀ (k : Nat) (p : Nat × AV) (v : Nat × Value), ps[k]? = some p → vs[k]? = some v → p.1 = v.1 ∧ RepA w E p.2 v.2) → cells.size = cs.length → (∀ k x, cs[k]? = some x → RepA w E x (cells.getD k undef)) →
      ∃ cells', Instr.fill (places[·]?) cells vs = some cells' ∧ cells'.size = r.length ∧ ∀ k x, r[k]? = some x → RepA w E x (cells'.getD k undef)
  | [], cs, K, h => ⟨cs, h, fun E w vs cells hl _ hs hr => by
      have : vs = [] := List.length_eq_zero_iff.1 hl
      subst this
      exact ⟨cells, rfl, hs, hr⟩⟩
  | (f, x) :: l, cs, K, h => by
    simp only [vParts] at h
    split at h
    · rename_i off ft hf
      split at h
      · rename_i i c hi hc
        replace h := ck_out h
        obtain ⟨hl, h⟩ := h
        simp only [Bool.and_eq_true, beq_iff_eq, decide_eq_true_eq] at hl
        obtain ⟨hl, hle⟩ := hl
        obtain ⟨r, hk, hr⟩ := vParts_out hpl h
        refine ⟨r, hk, fun E w vs cells hvl hvs hs hcr => ?_⟩
        cases vs with
        | nil => simp at hvl
        | cons v vs =>
          obtain ⟨e1, e2⟩ := hvs 0 _ v rfl rfl
          obtain ⟨g1, _, g3⟩ := cells_rep e2 hc
          obtain ⟨vi, vv⟩ := v
          simp only at e1 e2 g1 g3
          subst e1
          obtain ⟨cells', q1, q2, q3⟩ := fill_one (v := vv) (cells := cells) (off := off) (by rw [g1, hs]; exact hle)
          simp only [Instr.fill, hpl _ _ _ hf i hi]
          rw [if_neg (by simp [g1, hl, hs]; omega)]
          have := hr E w vs cells' (by simpa using hvl) (fun k p v hp hv => hvs (k + 1) p v hp hv) (by rw [q2, hs, splice_len hle]) (fun k y hy => by
            rw [splice_get hle] at hy
            rw [q3 k, g1]
            split at hy
            · rw [if_neg (by omega)]; exact hcr k y hy
            · split at hy
              · rw [if_pos ⟨by omega, by assumption⟩]; exact g3 _ y hy
              · rw [if_neg (by omega)]; exact hcr k y hy)
          rw [← q1] at this
          exact this
      · exact h.elim
    · exact h.elim
def places (C : Ctx) (F : List Field) : List (Nat × Nat) := F.map fun f => (f.offset, match C.ti f.type with | some i => i.sz | none => 0)
theorem run_places {w : World} : ∀ {F : List Field}, (∀ f ∈ F, (C.ti f.type).isSome = true) → (F.mapM fun f => (do pure (f.offset, ← sizeOf f.type) : Sem (Nat × Nat))).run C.P w = .ok (places C F) w
  | [], _ => rfl
  | f :: F, h => by
    have h1 := run_places (w := w) (F := F) fun g hg => h g (List.mem_cons_of_mem _ hg)
    obtain ⟨i, hi⟩ := Option.isSome_iff_exists.1 (h f (List.mem_cons_self ..))
    rw [List.mapM_cons, Sem.run_bind, Sem.run_bind, (C.ok _ _ hi).run_sizeOf]
    simp only [Result.andThen_ok, Sem.run_pure]
    rw [Sem.run_bind, h1]
    simp [places, hi]
theorem vBuild_ok {nx : Nat} {K : Eff → Prop} {t : TypeId} {ps : Array (Nat × Operand)} (ho : o.op = .build t ps) (h : vBuild C t (ps.toList.map fun p => (p.1, ev T p.2)) K) : Does C o N T H nx K := by
  unfold vBuild at h
  split at h
  · rename_i i fs hi hk
    replace h := ck_out h
    obtain ⟨hall, h⟩ := h
    obtain ⟨d, u, F, rfl, hF⟩ := kind_ok hk
    have hall' : ∀ f ∈ F.toList, (C.ti f.type).isSome = true := fun f hf => by
      have : (f.offset, f.type) ∈ fs := by rw [← hF]; exact List.mem_map.2 ⟨f, hf, rfl⟩
      exact List.all_eq_true.1 hall _ this
    have hpl' : ∀ (f off ft : Nat), fs[f]? = some (off, ft) → ∀ i, C.ti ft = some i → (places C F.toList).toArray[f]? = some (off, i.sz) := fun f off ft hf i hi => by
      rw [← hF] at hf
      simp only [List.getElem?_map, Option.map_eq_some_iff, Prod.mk.injEq] at hf
      obtain ⟨fld, h1, rfl, rfl⟩ := hf
      simp only [places, List.getElem?_toArray, List.getElem?_map, h1, Option.map_some, hi]
    obtain ⟨r, hkr, hr⟩ := vParts_out hpl' h
    refine does_val hkr fun T' H' g1 _ E a w ht _ => ?_
    obtain ⟨z, hz, hz2⟩ := (C.ok _ _ hi).run_zero w
    obtain ⟨cells', q1, q2, q3⟩ := hr E w (ps.toList.map fun p => (p.1, a.eval p.2)) z.cells (by simp) (fun k p v hp hv => by
        simp only [List.getElem?_map, Option.map_eq_some_iff] at hp hv
        obtain ⟨p', hp', rfl⟩ := hp
        obtain ⟨v', hv', rfl⟩ := hv
        rw [hp'] at hv'; cases hv'
        refine ⟨rfl, rep_at ht (g1 p'.2 ?_) rfl⟩
        rw [ho]; simp only [Op.operands]
        exact Array.mem_toList_iff.1 (by simpa using ⟨p'.1, Array.mem_toList_iff.1 (List.mem_of_getElem? hp')⟩)) (by rw [zero_cells hz2]; simp [zeroA]) (by rw [zero_cells hz2]; exact zeroA_rep (C.ok _ _ hi).one)
    refine ⟨.agg cells', w, ?_, rfl, .agg _ _ q2 q3⟩
    have hm : (F.mapM fun f => (do pure (f.offset, ← sizeOf f.type) : Sem (Nat × Nat))).run C.P w = .ok (places C F.toList).toArray w := by
      rw [Array.mapM_eq_mapM_toList, Sem.run_map, run_places hall']; rfl
    have hp : (ps.map fun p => (p.1, a.eval p.2)).toList = ps.toList.map fun p => (p.1, a.eval p.2) := by simp
    simp only [execOp, ho, Instr.build, Sem.run_bind, hz, Result.andThen_ok, run_underlying u, hm, hp, q1]
    rfl
  · exact h.elim
end
end Go.Proofs.Ytnffoddeppimkaa.AW
