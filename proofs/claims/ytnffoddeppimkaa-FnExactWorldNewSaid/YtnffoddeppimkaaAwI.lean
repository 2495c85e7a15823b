/- Operations: append. -/
import Derived.Test.YtnffoddeppimkaaAwH
namespace Go.Proofs.Ytnffoddeppimkaa.AW
open Go

/-- one block under another name -/
def Emb.alias (E : Emb) (x b : Nat) : Emb := { E with blk := fun y => if y = x then E.blk b else E.blk y, sz := fun y => if y = x then E.sz b else E.sz y, U := fun y => y = x ∨ E.U y, gh := fun y => if y = x then E.gh b else E.gh y }
theorem Emb.alias_nm {E : Emb} {x b : Nat} (hx : ¬ E.U x) : ∀ y, E.U y → (E.alias x b).U y ∧ (E.alias x b).blk y = E.blk y ∧ (E.alias x b).sz y = E.sz y ∧ ((E.alias x b).gh y ↔ E.gh y) := fun y hy => by
  have : y ≠ x := fun e => hx (e ▸ hy)
  exact ⟨.inr hy, by simp [Emb.alias, this], by simp [Emb.alias, this], by simp [Emb.alias, this]⟩
theorem HInv.rename {E : Emb} {H : Nat → Option Block} {w : World} (h : HInv E H w) {b x : Nat} {B : Block} (hb : H b = some B) (hx : ¬ E.U x) : HInv (E.alias x b) (setH (setH H b none) x (some B)) w ∧ Ext E.U E w (E.alias x b) w := by
  have hxb : x ≠ b := fun e => hx (e ▸ (h.un b B hb).1)
  have fx : (E.alias x b).blk x = E.blk b ∧ (E.alias x b).sz x = E.sz b ∧ (E.alias x b).gh x = E.gh b := by simp [Emb.alias]
  have f : ∀ y Y, setH (setH H b none) x (some B) y = some Y → (y = x ∧ Y = B) ∨ (y ≠ x ∧ y ≠ b ∧ H y = some Y) := fun y Y hy => by
    by_cases e : y = x
    · left; simp [setH, e] at hy; exact ⟨e, hy.symm⟩
    · right
      by_cases e2 : y = b
      · subst e2; simp [setH, e] at hy
      · simp [setH, e, e2] at hy; exact ⟨e, e2, hy⟩
  refine ⟨⟨fun y Y hy => ?_, fun y Y hy => ?_, fun y z Y Z hy hz gy gz e => ?_, h.prfr, h.frlt⟩, ⟨fun _ _ => rfl, fun _ h => h, fun _ h => h, Nat.le_refl _, fun y hy => (Emb.alias_nm hx y hy).2, fun y hy hg => by
      by_cases e : y = x
      · subst e; right; rw [fx.2.2] at hg; exact ⟨b, (h.un b B hb).1, hg, fx.1⟩
      · right; have := hy.resolve_left e; obtain ⟨_, n2, _, n4⟩ := Emb.alias_nm (b := b) hx y this; exact ⟨y, this, fun g => hg (n4.2 g), n2⟩, fun _ h => .inl h, ⟨rfl, rfl, rfl⟩⟩⟩
  · rcases f y Y hy with ⟨rfl, rfl⟩ | ⟨e1, e2, hy⟩
    · have hB := h.hp b _ hb
      cases Y with
      | box cs =>
        obtain ⟨g, cells, p, q1, q2, q3⟩ := hB
        exact ⟨by rw [fx.2.2]; exact g, cells, by rw [fx.1]; exact p, by rw [fx.2.1]; exact q1, q2, fun k z hz => (q3 k z hz).mono (E := E) (E' := E.alias y b) (fun _ _ => rfl) (fun _ h => h) (Emb.alias_nm hx)⟩
      | row st es =>
        rcases hB with ⟨g, he⟩ | ⟨g, cells, p, q1, q2, q3, q4⟩
        · exact .inl ⟨by rw [fx.2.2]; exact g, he⟩
        · exact .inr ⟨by rw [fx.2.2]; exact g, cells, by rw [fx.1]; exact p, by rw [fx.2.1]; exact q1, q2, q3, q4⟩
    · exact (h.hp y Y hy).mono (E := E) (E' := E.alias x b) (fun _ _ => rfl) (fun _ h => h) (Emb.alias_nm hx) (h.un y Y hy).1 (fun _ => rfl)
  · rcases f y Y hy with ⟨rfl, rfl⟩ | ⟨e1, e2, hy⟩
    · refine ⟨.inl rfl, fun g => ?_⟩
      rw [fx.2.2] at g; rw [fx.1]
      exact (h.un b _ hb).2 g
    · obtain ⟨u, g⟩ := h.un y Y hy
      obtain ⟨n1, n2, n3, n4⟩ := Emb.alias_nm (b := b) hx y u
      exact ⟨n1, fun gy => by rw [n2]; exact g fun g' => gy (n4.2 g')⟩
  · have k : ∀ y Y, setH (setH H b none) x (some B) y = some Y → ¬ (E.alias x b).gh y → ∃ y', (E.alias x b).blk y = E.blk y' ∧ ¬ E.gh y' ∧ (∃ Y', H y' = some Y') ∧ (y = x ∧ y' = b ∨ y ≠ x ∧ y = y' ∧ y ≠ b) := fun y Y hy gy => by
      rcases f y Y hy with ⟨rfl, rfl⟩ | ⟨e1, e2, hy⟩
      · exact ⟨b, fx.1, by rw [fx.2.2] at gy; exact gy, ⟨_, hb⟩, .inl ⟨rfl, rfl⟩⟩
      · obtain ⟨n1, n2, n3, n4⟩ := Emb.alias_nm (b := b) hx y (h.un y Y hy).1
        exact ⟨y, n2, fun g => gy (n4.2 g), ⟨_, hy⟩, .inr ⟨e1, rfl, e2⟩⟩
    obtain ⟨y', a1, a2, ⟨Y', a3⟩, a4⟩ := k y Y hy gy
    obtain ⟨z', b1, b2, ⟨Z', b3⟩, b4⟩ := k z Z hz gz
    have := h.inj y' z' Y' Z' a3 b3 a2 b2 (a1 ▸ b1 ▸ e)
    rcases a4 with ⟨c1, c2⟩ | ⟨c1, c2, c3⟩ <;> rcases b4 with ⟨d1, d2⟩ | ⟨d1, d2, d3⟩
    · rw [c1, d1]
    · exact absurd (d2.trans (this.symm.trans c2)) d3
    · exact absurd (c2.trans (this.trans d2)) c3
    · rw [c2, d2, this]
/-- an empty row that has no block -/
def Emb.ghost (E : Emb) (x : Nat) : Emb := { E with U := fun y => y = x ∨ E.U y, gh := fun y => y = x ∨ E.gh y }
theorem HInv.ghost {E : Emb} {H : Nat → Option Block} {w : World} (h : HInv E H w) {x st : Nat} (hx : ¬ E.U x) : HInv (E.ghost x) (setH H x (some (.row st []))) w ∧ Ext E.U E w (E.ghost x) w := by
  have nm : ∀ y, E.U y → (E.ghost x).U y ∧ (E.ghost x).blk y = E.blk y ∧ (E.ghost x).sz y = E.sz y ∧ ((E.ghost x).gh y ↔ E.gh y) := fun y hy => by
    have : y ≠ x := fun e => hx (e ▸ hy)
    exact ⟨.inr hy, rfl, rfl, by simp [Emb.ghost, this]⟩
  have f : ∀ y Y, setH H x (some (.row st [])) y = some Y → (y = x ∧ Y = .row st []) ∨ (y ≠ x ∧ H y = some Y) := fun y Y hy => by
    by_cases e : y = x
    · left; simp [setH, e] at hy; exact ⟨e, hy.symm⟩
    · right; simp [setH, e] at hy; exact ⟨e, hy⟩
  refine ⟨⟨fun y Y hy => ?_, fun y Y hy => ?_, fun y z Y Z hy hz gy gz e => ?_, h.prfr, h.frlt⟩, ⟨fun _ _ => rfl, fun _ h => h, fun _ h => h, Nat.le_refl _, fun y hy => (nm y hy).2, fun y hy hg => .inr ⟨y, hy.resolve_left fun e => hg (.inl e), fun g => hg (.inr g), rfl⟩, fun _ h => .inl h, ⟨rfl, rfl, rfl⟩⟩⟩
  · rcases f y Y hy with ⟨rfl, rfl⟩ | ⟨e1, hy⟩
    · exact .inl ⟨.inl rfl, rfl⟩
    · exact (h.hp y Y hy).mono (E := E) (E' := E.ghost x) (fun _ _ => rfl) (fun _ h => h) nm (h.un y Y hy).1 (fun _ => rfl)
  · rcases f y Y hy with ⟨rfl, rfl⟩ | ⟨e1, hy⟩
    · exact ⟨.inl rfl, fun g => (g (.inl rfl)).elim⟩
    · obtain ⟨u, g⟩ := h.un y Y hy
      exact ⟨.inr u, fun gy => g fun g' => gy (.inr g')⟩
  · rcases f y Y hy with ⟨rfl, rfl⟩ | ⟨e1, hy⟩
    · exact (gy (.inl rfl)).elim
    · rcases f z Z hz with ⟨rfl, rfl⟩ | ⟨e2, hz⟩
      · exact (gz (.inl rfl)).elim
      · exact h.inj y z Y Z hy hz (fun g => gy (.inr g)) (fun g => gz (.inr g)) e

section
variable {C : Ctx} {o : Oper} {N : Nat} {T : Nat → AV} {H : Nat → Option Block}

/-- what is appended: elements, at sight -/
def vSrc (st : Nat) (H : Nat → Option Block) (y : AV) (K : List (List CV) → List Nat → Prop) : Prop := match y with
  | .own b st' o n _ => match H b with
    | some (.row st2 es) => ck (st == st' && st == st2) <| o + n ≤ es.length ∧ K ((es.drop o).take n) [b]
    | _ => False
  | .cv (.ro st' es _) => ck (st == st') <| K es []
  | .cv (.sc (.slice none 0 0)) => K [] []
  | _ => False
/-- the cells of elements -/
def CellsOf (w : World) (pr : Nat → Prop) (st : Nat) (es : List (List CV)) (cells : Array Value) : Prop := cells.size = es.length * st ∧ (∀ u ∈ cells.toList, u.oneCell' = true) ∧ RowRep w pr st cells es
theorem oneC_rep {w : World} {pr : Nat → Prop} {x : CV} {v : Value} (h : RepC w pr x v) : v.oneCell' = true := by
  cases h with
  | sc v ho => cases v <;> first | rfl | (simp [oneV] at ho)
  | _ => rfl
theorem grid {st : Nat} {es : List (List CV)} {P : Nat → Prop} (hel : ∀ e ∈ es, e.length = st) (h : ∀ i e k x, es[i]? = some e → e[k]? = some x → P (i * st + k)) : ∀ q, q < es.length * st → P q := fun q hq => by
  have hst : 0 < st := Nat.pos_of_ne_zero fun e => by simp [e] at hq
  have hi : q / st < es.length := Nat.div_lt_of_lt_mul (by rwa [Nat.mul_comm] at hq)
  have hk : q % st < st := Nat.mod_lt _ hst
  have he := hel es[q / st] (List.getElem_mem hi)
  have := h (q / st) es[q / st] (q % st) (es[q / st][q % st]'(by omega)) (by simp) (by simp)
  rwa [show q / st * st + q % st = q by rw [Nat.mul_comm]; exact Nat.div_add_mod q st] at this
theorem ro_cells {st : Nat} {es : List (List CV)} {cap : Option Nat} {pr : Nat → Prop} {w : World} {v : Value} (hr : RepC w pr (.ro st es cap) v) : (∀ e ∈ es, e.length = st) ∧ ∃ cells, (Builtin.lenOf v).run C.P w = .ok es.length w ∧ (Builtin.firstCells st es.length v).run C.P w = .ok cells w ∧ CellsOf w pr st es cells := by
  cases hr with
  | ro _ _ _ a n c vs hn hc hcap hst hcell hrep =>
    refine ⟨hst, ?_⟩
    cases a with
    | none =>
      have : es = [] := by
        cases es with
        | nil => rfl
        | cons e l => obtain ⟨ad, e1, _⟩ := hcell 0 e rfl; cases e1
      subst this
      exact ⟨#[], by simp [Builtin.lenOf, hn], by simp [Builtin.firstCells], by simp, by simp, fun i e k x hi => by simp at hi⟩
    | some ad =>
      have cellq : ∀ q, q < es.length * st → w.cell? (ad.add q) = some (vs (q / st) (q % st)) := by
        refine grid hst fun i e k x hi hx => ?_
        obtain ⟨ad', e1, hsp, hp, hcl⟩ := hcell i e hi
        cases e1
        have hk : k < st := (hst e (List.mem_of_getElem? hi)) ▸ (List.getElem?_eq_some_iff.1 hx).1
        have := hcl k x hx
        rw [addr_add' hsp]
        simp only [cellAt] at this
        rw [this, show (i * st + k) / st = i by rw [Nat.mul_comm, Nat.mul_add_div (by omega)]; simp [Nat.div_eq_of_lt hk], show (i * st + k) % st = k by rw [Nat.mul_comm, Nat.mul_add_mod]; exact Nat.mod_eq_of_lt hk]
      have hrun := run_loadCells (P := C.P) w ad (es.length * st) (fun q => vs (q / st) (q % st)) cellq
      refine ⟨((List.range (es.length * st)).map fun q => vs (q / st) (q % st)).toArray, by simp [Builtin.lenOf, hn], by simp only [Builtin.firstCells]; exact hrun, by simp, fun u hu => ?_, fun i e k x hi hx => ?_⟩
      · simp only [List.mem_map, List.mem_range] at hu
        obtain ⟨q, hq, rfl⟩ := hu
        revert q
        refine grid hst fun i e k x hi hx => ?_
        have hk : k < st := (hst e (List.mem_of_getElem? hi)) ▸ (List.getElem?_eq_some_iff.1 hx).1
        rw [show (i * st + k) / st = i by rw [Nat.mul_comm, Nat.mul_add_div (by omega)]; simp [Nat.div_eq_of_lt hk], show (i * st + k) % st = k by rw [Nat.mul_comm, Nat.mul_add_mod]; exact Nat.mod_eq_of_lt hk]
        exact oneC_rep (hrep i e k x hi hx)
      · have hk : k < st := (hst e (List.mem_of_getElem? hi)) ▸ (List.getElem?_eq_some_iff.1 hx).1
        have hil := (List.getElem?_eq_some_iff.1 hi).1
        have h2 : (i + 1) * st ≤ es.length * st := Nat.mul_le_mul_right _ hil
        rw [Nat.succ_mul] at h2
        have : ((List.range (es.length * st)).map fun q => vs (q / st) (q % st)).toArray.getD (i * st + k) undef = vs i k := by
          simp only [Array.getD_eq_getD_getElem?, List.getElem?_toArray, List.getElem?_map, List.getElem?_range (show i * st + k < es.length * st by omega), Option.map_some, Option.getD_some]
          rw [show (i * st + k) / st = i by rw [Nat.mul_comm, Nat.mul_add_div (by omega)]; simp [Nat.div_eq_of_lt hk], show (i * st + k) % st = k by rw [Nat.mul_comm, Nat.mul_add_mod]; exact Nat.mod_eq_of_lt hk]
        rw [this]; exact hrep i e k x hi hx
theorem vSrc_out {st : Nat} {y : AV} {K : List (List CV) → List Nat → Prop} (h : vSrc st H y K) : ∃ es ms, K es ms ∧ (∀ (H' : Nat → Option Block), (∀ b ∈ ms, H' b = H b) → ∀ E w v, HInv E H' w → RepA w E y v →
    (∀ e ∈ es, e.length = st) ∧ ∃ cells, (Builtin.lenOf v).run C.P w = .ok es.length w ∧ (Builtin.firstCells st es.length v).run C.P w = .ok cells w ∧ CellsOf w E.pr st es cells) := by
  unfold vSrc at h
  split at h
  · rename_i b st' o' n cap
    split at h
    · rename_i st2 es hb
      replace h := ck_out h
      obtain ⟨hs, hl, h⟩ := h
      simp only [Bool.and_eq_true, beq_iff_eq] at hs
      obtain ⟨rfl, rfl⟩ := hs
      refine ⟨_, _, h, fun H' hH E w v hh hr => ?_⟩
      have hro := own_ro hh ((hH b (by simp)).trans hb) hr hl (pr := fun r => E.pr r ∨ ¬ E.gh b ∧ r = E.blk b) (fun _ h => .inl h) (fun g => .inr ⟨g, rfl⟩)
      obtain ⟨g1, cells, g2, g3, g4, g5, g6⟩ := ro_cells (C := C) hro
      refine ⟨g1, cells, g2, g3, g4, g5, fun i e k x hi hx => ?_⟩
      -- closed cells of a row rest on what was closed already
      rcases hh.hp b _ ((hH b (by simp)).trans hb) with ⟨_, he⟩ | ⟨hg, bc, p, q1, q2, q3, q4⟩
      · subst he; simp at hi
      · obtain ⟨c, ad, rfl, hU, hnc, hcap, hx'⟩ := rep_own hr
        rcases hx' with ⟨_, rfl, hsz⟩ | ⟨g, _⟩
        · have hi2 := (take_drop_get hi).1
          have hv := q4 (o' + i) e k x hi2 hx
          have hk : k < st := (q3 e (List.mem_of_getElem? hi2)) ▸ (List.getElem?_eq_some_iff.1 hx).1
          have hil := (List.getElem?_eq_some_iff.1 hi).1
          -- the cell that was loaded is the block's
          have hl2 := run_loadCells (P := C.P) w ⟨E.blk b, o' * st, none⟩ (((es.drop o').take n).length * st) (fun q => bc.getD (o' * st + q) undef) (fun q hq => by
            rw [addr_add, p.cell]
            have : ((es.drop o').take n).length ≤ es.length - o' := by simp; omega
            have h3 : ((es.drop o').take n).length * st + o' * st ≤ es.length * st := by
              rw [← Nat.add_mul]; exact Nat.mul_le_mul_right _ (by simp; omega)
            have hlt : o' * st + q < bc.size := by omega
            simp [Array.getD_eq_getD_getElem?, hlt])
          simp only [Builtin.firstCells] at g3
          rw [hl2] at g3
          cases g3
          have h2 : (i + 1) * st ≤ ((es.drop o').take n).length * st := Nat.mul_le_mul_right _ hil
          rw [Nat.succ_mul] at h2
          have : ((List.range (((es.drop o').take n).length * st)).map fun q => bc.getD (o' * st + q) undef).toArray.getD (i * st + k) undef = bc.getD ((o' + i) * st + k) undef := by
            simp only [Array.getD_eq_getD_getElem?, List.getElem?_toArray, List.getElem?_map, List.getElem?_range (show i * st + k < ((es.drop o').take n).length * st by omega), Option.map_some, Option.getD_some]
            rw [Nat.add_mul, Nat.add_assoc]
          rw [this]; exact hv
        · exact (hg g).elim
    · exact h.elim
  · rename_i st' es cap
    replace h := ck_out h
    obtain ⟨hs, h⟩ := h
    have hs : st = st' := by simpa using hs
    subst hs
    refine ⟨_, _, h, fun H' _ E w v hh hr => ?_⟩
    cases hr with | cv _ _ hr => exact ro_cells hr
  · refine ⟨_, _, h, fun H' _ E w v hh hr => ?_⟩
    rw [rep_sc hr]
    exact ⟨by simp, #[], by simp [Builtin.lenOf], by simp [Builtin.firstCells], by simp, by simp, fun i e k x hi => by simp at hi⟩
  · exact h.elim

/-- rows joined -/
theorem RowRep.append {w : World} {pr : Nat → Prop} {st : Nat} {es fs : List (List CV)} {a b c : Array Value} (ha : RowRep w pr st a es) (hb : RowRep w pr st b fs) (hl : a.size = es.length * st) (hbl : b.size = fs.length * st) (he : ∀ e ∈ es, e.length = st) (hf : ∀ e ∈ fs, e.length = st) : RowRep w pr st (a ++ b ++ c) (es ++ fs) := by
  intro i e k x hi hx
  rw [List.getElem?_append] at hi
  split at hi
  · rename_i hlt
    have hk : k < st := (he e (List.mem_of_getElem? hi)) ▸ (List.getElem?_eq_some_iff.1 hx).1
    have h2 : (i + 1) * st ≤ es.length * st := Nat.mul_le_mul_right _ hlt
    rw [Nat.succ_mul] at h2
    have : (a ++ b ++ c).getD (i * st + k) undef = a.getD (i * st + k) undef := by
      simp only [Array.getD_eq_getD_getElem?]
      rw [Array.append_assoc, Array.getElem?_append_left (by omega)]
    rw [this]; exact ha i e k x hi hx
  · rename_i hge
    have hlt := (List.getElem?_eq_some_iff.1 hi).1
    have hk : k < st := (hf e (List.mem_of_getElem? hi)) ▸ (List.getElem?_eq_some_iff.1 hx).1
    have h2 : (i - es.length + 1) * st ≤ fs.length * st := Nat.mul_le_mul_right _ hlt
    rw [Nat.succ_mul] at h2
    have h3 : i * st = es.length * st + (i - es.length) * st := by rw [← Nat.add_mul]; congr 1; omega
    have : (a ++ b ++ c).getD (i * st + k) undef = b.getD ((i - es.length) * st + k) undef := by
      simp only [Array.getD_eq_getD_getElem?]
      rw [Array.append_assoc, Array.getElem?_append_right (by omega), Array.getElem?_append_left (by omega)]
      congr 2; omega
    rw [this]; exact hb _ e k x hi hx
theorem growBy_le (need : Nat) : ∀ (r c : Nat), c ≤ 2 * need + 768 → Builtin.growBy need r c ≤ 2 * need + 768
  | 0, c, h => h
  | r + 1, c, h => by
    unfold Builtin.growBy
    split
    · exact h
    · exact growBy_le need r _ (by omega)
theorem nextslicecap_le {need old : Nat} (h : old < need) : Builtin.nextslicecap need old ≤ 2 * need + 768 := by
  unfold Builtin.nextslicecap
  split
  · omega
  · split
    · omega
    · exact growBy_le need 4 old (by omega)

def vAppend (C : Ctx) (t0 t1 : TypeId) (x y : AV) (H : Nat → Option Block) (nx : Nat) (K : Eff → Prop) : Prop := match C.kd t0, C.kd t1 with
  | some (.slice e), some (.slice _) => match C.ti e with
    | some i => ck (decide (0 < i.sz) && decide (0 < i.bytes)) <| vSrc i.sz H y fun src ms => match x with
      | .own b st o n cap => match H b with
        | some (.row st2 es) => ck (st == i.sz && st == st2 && o == 0 && !ms.contains b) <| n ≤ es.length ∧ (2 * (n + src.length) + 768) * i.bytes ≤ 281474976710656 ∧
            K ⟨.own nx st 0 (n + src.length) none, [(b, none), (nx, some (.row st (es.take n ++ src)))], [nx], b :: ms⟩
        | _ => False
      | .cv (.sc (.slice none 0 0)) => (2 * src.length + 768) * i.bytes ≤ 281474976710656 ∧ K ⟨.own nx i.sz 0 src.length none, [(nx, some (.row i.sz src))], [nx], ms⟩
      | .cv (.ro st es cap) => ck (st == i.sz) <| (cap = some 0 ∨ ∃ c, cap = some c ∧ c < es.length + src.length) ∧ (2 * (es.length + src.length) + 768) * i.bytes ≤ 281474976710656 ∧
            K ⟨.own nx i.sz 0 (es.length + src.length) none, [(nx, some (.row i.sz (es ++ src)))], [nx], ms⟩
      | _ => False
    | none => False
  | _, _ => False

/-- the slice grows in new memory -/
theorem run_grow {w : World} {t0 t1 e e' ty : TypeId} {i : TI} (hi : TIok C.P e i) (u0 : C.P.underlying t0 = some (.slice e)) (u1 : C.P.underlying t1 = some (.slice e')) {a : Option Addr} {n c k : Nat} {v : Value} {old new : Array Value}
    (hl : (Builtin.lenOf v).run C.P w = .ok k w) (hold : (Builtin.firstCells i.sz n (.slice a n c)).run C.P w.drew = .ok old w.drew) (hnew : (Builtin.firstCells i.sz k v).run C.P w.drew = .ok new w.drew)
    (hpos : 0 < i.bytes) (hc : c < n + k) (hb : (2 * (n + k) + 768) * i.bytes ≤ 281474976710656) (ho : old.size = n * i.sz) (hn : new.size = k * i.sz) :
    ∃ (rest : Array Value) (c' : Nat), (Builtin.append_ #[t0, t1] ty #[.slice a n c, v]).run C.P w = .ok (.slice (some ⟨w.heap.size, 0, none⟩) (n + k) c') (w.drew.alloc (.cells (old ++ new ++ rest) e)) ∧ n + k ≤ c' ∧ c' * i.sz ≤ (old ++ new ++ rest).size := by
  have hs := hi.run_sizeOf w
  obtain ⟨inf, hf1, hf2, hf3, hf4⟩ := hi.run_typeInfo w
  obtain ⟨inf', hf1', hf2', hf3', hf4'⟩ := hi.run_typeInfo w.drew
  obtain ⟨z, hz, hz2⟩ := hi.run_zero w.drew
  have hzs : z.cells.size = i.sz := by rw [zero_cells hz2]; simpa using hi.len
  have hcap : Builtin.nextslicecap (n + k) c * i.bytes ≤ 281474976710656 := Nat.le_trans (Nat.mul_le_mul_right _ (nextslicecap_le hc)) hb
  obtain ⟨q, hq, hqe⟩ : ∃ q, n + k ≤ q ∧ (Question.appendCap (n + k) c e).cut (w.tape w.drawn (.appendCap (n + k) c e)) = q := ⟨_, by simp [Question.cut], rfl⟩
  refine ⟨Builtin.zeroCells z.cells (q - (n + k)), q, ?_, hq, ?_⟩
  · have e1 : ¬ n + k ≤ c := by omega
    have e2 : ¬ Builtin.nextslicecap (n + k) c * i.bytes > 2 ^ 48 := by omega
    simp only [Builtin.append_, List.getElem?_toArray, List.getElem?_cons_zero, List.getElem?_cons_succ, Sem.run_bind, Sem.run_pure, Result.andThen_ok, run_underlying u0, run_underlying u1, hs, hl]
    simp only [Bool.false_eq_true, if_false, Sem.run_pure, Result.andThen_ok, Sem.run_bind, Sem.run_ite, hl, e1]
    have e3 : ¬ ((n : Int) + (k : Int) > 9223372036854775807) := by
      have : n + k ≤ (2 * (n + k) + 768) * i.bytes := Nat.le_trans (by omega) (Nat.le_mul_of_pos_right (2 * (n + k) + 768) hpos)
      omega
    have e4 : ¬ (281474976710656 < Builtin.nextslicecap (n + k) c * i.bytes) := by omega
    simp [hf1, hf1', hf3, hf3', e3, e4, Question.forced, hqe, hold, hnew, hz, newRow, show IntKind.i64.max = 9223372036854775807 from rfl]
  · simp only [Array.size_append, ho, hn, Builtin.zeroCells, Array.size_map, Array.size_range, hzs]
    rw [← Nat.add_mul, ← Nat.add_mul]
    exact Nat.mul_le_mul_right _ (by omega)
/-- the slice has room -/
theorem run_room {w w' : World} {t0 t1 e e' ty : TypeId} {i : TI} (hi : TIok C.P e i) (u0 : C.P.underlying t0 = some (.slice e)) (u1 : C.P.underlying t1 = some (.slice e')) {a : Option Addr} {n c k : Nat} {v : Value} {new : Array Value}
    (hl : (Builtin.lenOf v).run C.P w = .ok k w) (hnew : (Builtin.firstCells i.sz k v).run C.P w = .ok new w)
    (hc : n + k ≤ c) (hst : match a with | none => w' = w | some p => (storeCells (p.add (n * i.sz)) new.toList).run C.P w = .ok () w') : (Builtin.append_ #[t0, t1] ty #[.slice a n c, v]).run C.P w = .ok (.slice a (n + k) c) w' := by
  have hs := hi.run_sizeOf w
  simp only [Builtin.append_, List.getElem?_toArray, List.getElem?_cons_zero, List.getElem?_cons_succ, Sem.run_bind, Sem.run_pure, Result.andThen_ok, run_underlying u0, run_underlying u1, hs, hl]
  simp only [Bool.false_eq_true, if_false, Sem.run_pure, Result.andThen_ok, Sem.run_bind, Sem.run_ite, hl, hc, if_true, Bool.not_false, hnew]
  cases a with
  | none => simp only at hst; subst hst; simp
  | some p => simp only at hst; simp [hst]

theorem RowRep.mono {w w' : World} {pr pr' : Nat → Prop} {st : Nat} {cells : Array Value} {es : List (List CV)} (h : RowRep w pr st cells es) (hk : ∀ r, pr r → w'.heap[r]? = w.heap[r]?) (hp : ∀ r, pr r → pr' r) : RowRep w' pr' st cells es :=
  fun i e k x hi hx => (h i e k x hi hx).mono hk hp
theorem drew_heap (w : World) : w.drew.heap = w.heap := rfl
theorem HInv.drew {E : Emb} {H : Nat → Option Block} {w : World} (h : HInv E H w) : HInv E H w.drew := (h.same (w' := w.drew) rfl ⟨rfl, rfl, rfl⟩).1

set_option maxHeartbeats 1000000 in
/-- an empty base (or one whose room is known to be too small) -/
theorem append_new {nx : Nat} {K : Eff → Prop} {t0 t1 e e' : TypeId} {i : TI} {x y : Operand} {ats : Array TypeId} {es src : List (List CV)} {ms : List Nat} (ho : o.op = .call { callee := .builtin .append, args := #[x, y], argTypes := ats }) (hat : ats = #[t0, t1])
    (u0 : C.P.underlying t0 = some (.slice e)) (u1 : C.P.underlying t1 = some (.slice e')) (hi : C.ti e = some i) (hpos : 0 < i.bytes) (hb : (2 * (es.length + src.length) + 768) * i.bytes ≤ 281474976710656)
    (hsrc : ∀ (H' : Nat → Option Block), (∀ b ∈ ms, H' b = H b) → ∀ E w v, HInv E H' w → RepA w E (ev T y) v → (∀ e ∈ src, e.length = i.sz) ∧ ∃ cells, (Builtin.lenOf v).run C.P w = .ok src.length w ∧ (Builtin.firstCells i.sz src.length v).run C.P w = .ok cells w ∧ CellsOf w E.pr i.sz src cells)
    (hx : ∀ E w v, RepA w E (ev T x) v → ∃ a c, v = .slice a es.length c ∧ (c < es.length + src.length ∨ es = [] ∧ src = [] ∧ c = 0) ∧ (∀ e ∈ es, e.length = i.sz) ∧ ∃ cells, (Builtin.firstCells i.sz es.length v).run C.P w = .ok cells w ∧ CellsOf w E.pr i.sz es cells)
    (h : K ⟨.own nx i.sz 0 (es.length + src.length) none, [(nx, some (.row i.sz (es ++ src)))], [nx], ms⟩) : Does C o N T H nx K := by
  have mx : x ∈ o.op.operands := by simp [ho, Op.operands, Call.operands]
  have my : y ∈ o.op.operands := by simp [ho, Op.operands, Call.operands]
  refine ⟨_, loc_mk fun T' H' g1 g2 E a w ht hh hf => ?_, rfl, h⟩
  have rx := rep_at ht (g1 x mx) rfl
  have ry := rep_at ht (g1 y my) rfl
  obtain ⟨ad, c, ex, hc, hel, old, hold, ho1, ho2, ho3⟩ := hx E w _ rx
  obtain ⟨hsl, new, hl, hnew, hn1, hn2, hn3⟩ := hsrc H' g2 E w _ hh ry
  have hn : ¬ E.U nx := hf nx (by simp)
  have hop : ∀ r w', (Builtin.append_ #[t0, t1] o.type #[.slice ad es.length c, a.eval y]).run C.P w = .ok r w' → (execOp a.eval o).run C.P w = .ok (.value r) w' := fun r w' hr => by
    rw [run_builtin ho]
    simp only [builtin, List.map_toArray, List.map_cons, List.map_nil, hat, ex]
    rw [Sem.run_bind, hr]; rfl
  rcases hc with hc | ⟨rfl, rfl, rfl⟩
  · -- new memory
    have drew_rep : ∀ {z : AV} {u : Value}, RepA w E z u → RepA w.drew E z u := fun hz => RepA.mono (w := w) (w' := w.drew) (fun _ _ => rfl) (fun _ h => h) (fun _ h => ⟨h, rfl, rfl, .rfl⟩) hz
    obtain ⟨ad', c', ex', _, _, old', hold', ho1', ho2', ho3'⟩ := hx E w.drew _ (drew_rep rx)
    rw [ex] at ex'; cases ex'
    obtain ⟨_, new', _, hnew', hn1', hn2', hn3'⟩ := hsrc H' g2 E w.drew _ hh.drew (drew_rep ry)
    rw [ex] at hold'
    obtain ⟨rest, q, hr, hq1, hq2⟩ := run_grow (C := C) (ty := o.type) (C.ok _ _ hi) u0 u1 hl hold' hnew' hpos hc hb ho1' hn1'
    have old_heap : ∀ r, r < w.heap.size → (w.drew.alloc (.cells (old' ++ new' ++ rest) e)).heap[r]? = w.heap[r]? := fun r hr => by
      simp only [World.alloc, drew_heap, Array.getElem?_push]; rw [if_neg (by omega)]
    have hrow := RowRep.append (c := rest) ho3' hn3' ho1' hn1' hel hsl
    have hbk : (E.add nx w.heap.size (old' ++ new' ++ rest).size).blk nx = w.heap.size := by simp [Emb.add]
    have hp : Plain (w.drew.alloc (.cells (old' ++ new' ++ rest) e)) w.heap.size (old' ++ new' ++ rest) := ⟨e, 0, 0, by simp [World.alloc, drew_heap], fun _ _ => by omega⟩
    obtain ⟨k1, k2⟩ := hh.alloc (w' := w.drew.alloc (.cells (old' ++ new' ++ rest) e)) (b := nx) (B := .row i.sz (es ++ src)) (s := (old' ++ new' ++ rest).size) hn (by simp [World.alloc, drew_heap]) old_heap ⟨rfl, rfl, rfl⟩
      (.inr ⟨by simp [Emb.add], _, by rw [hbk]; exact hp, by simp [Emb.add], Nat.le_trans (Nat.mul_le_mul_right _ (by simpa using hq1)) hq2, fun f hf' => (List.mem_append.1 hf').elim (hel f) (hsl f),
        fun j f k z hj hz => (hrow j f k z hj hz).mono (fun r hr' => by rw [old_heap r (hh.frlt r (hh.prfr r hr'))]; rfl) (fun _ h => h)⟩)
    refine ⟨_, _, _, .inl (hop _ _ hr), ?_, k1, k2, fun b => by simp [Emb.add, or_comm]⟩
    have := RepA.own (w := w.drew.alloc (.cells (old' ++ new' ++ rest) e)) (E := E.add nx w.heap.size (old' ++ new' ++ rest).size) nx i.sz 0 (es.length + src.length) none q (.inl rfl) (by simp [Emb.add]) hq1 (by simp) (by simpa [Emb.add] using hq2)
    rw [hbk] at this
    simpa using this
  · -- nothing is appended to nothing
    have hnew0 : new = #[] := Array.eq_empty_of_size_eq_zero (by simpa using hn1)
    subst hnew0
    have hr := run_room (C := C) (ty := o.type) (w' := w) (a := ad) (C.ok _ _ hi) u0 u1 hl hnew (n := 0) (c := 0) (by simp) (by cases ad <;> simp [storeCells])
    obtain ⟨k1, k2⟩ := hh.ghost (x := nx) (st := i.sz) hn
    exact ⟨_, w, E.ghost nx, .inl (hop _ _ hr), .own0 _ _ _ _ _ (.inl rfl) (.inl rfl) (by simp), k1, k2, fun b => by simp [Emb.ghost, or_comm]⟩

set_option maxHeartbeats 2000000 in
theorem vAppend_ok {nx : Nat} {K : Eff → Prop} {t0 t1 : TypeId} {x y : Operand} {ats : Array TypeId} (ho : o.op = .call { callee := .builtin .append, args := #[x, y], argTypes := ats }) (hat : ats = #[t0, t1]) (h : vAppend C t0 t1 (ev T x) (ev T y) H nx K) : Does C o N T H nx K := by
  have mx : x ∈ o.op.operands := by simp [ho, Op.operands, Call.operands]
  have my : y ∈ o.op.operands := by simp [ho, Op.operands, Call.operands]
  unfold vAppend at h
  split at h
  · rename_i e e' hk0 hk1
    obtain ⟨_, u0, rfl⟩ := kind_ok hk0
    obtain ⟨_, u1, rfl⟩ := kind_ok hk1
    split at h
    · rename_i i hi
      replace h := ck_out h
      obtain ⟨hz, h⟩ := h
      simp only [Bool.and_eq_true, decide_eq_true_eq] at hz
      obtain ⟨hz, hpos⟩ := hz
      obtain ⟨src, ms, h, hsrc⟩ := vSrc_out (C := C) h
      split at h
      · rename_i b st o' n cap hx
        split at h
        · rename_i st2 es hb
          replace h := ck_out h
          obtain ⟨hs, hn, hbd, h⟩ := h
          simp only [Bool.and_eq_true, beq_iff_eq, Bool.not_eq_true', List.contains_eq_mem, decide_eq_false_iff_not] at hs
          obtain ⟨⟨⟨rfl, rfl⟩, rfl⟩, hbm⟩ := hs
          refine ⟨_, loc_mk fun T' H' g1 g2 E a w ht hh hf => ?_, rfl, h⟩
          have rx := rep_at ht (g1 x mx) hx
          have ry := rep_at ht (g1 y my) rfl
          have hb' := (g2 b (by simp)).trans hb
          have g2' : ∀ b ∈ ms, H' b = H b := fun b' hb' => g2 b' (List.mem_cons_of_mem _ hb')
          obtain ⟨hsl, new, hl, hnew, hn1, hn2, hn3⟩ := hsrc H' g2' E w _ hh ry
          have hnx : ¬ E.U nx := hf nx (by simp)
          obtain ⟨c, ad, ex, hU, hnc, hcap, hh2⟩ := rep_own rx
          have hop : ∀ r w', (Builtin.append_ #[t0, t1] o.type #[.slice ad n c, a.eval y]).run C.P w = .ok r w' → (execOp a.eval o).run C.P w = .ok (.value r) w' := fun r w' hr => by
            rw [run_builtin ho]
            simp only [builtin, List.map_toArray, List.map_cons, List.map_nil, hat, ex]
            rw [Sem.run_bind, hr]; rfl
          have ulist : ∀ (E' : Emb), updH H' [(b, none), (nx, some (.row i.sz (es.take n ++ src)))] = setH (setH H' b none) nx (some (.row i.sz (es.take n ++ src))) := fun _ => rfl
          have hesl : ∀ e ∈ es, e.length = i.sz := by
            rcases hh.hp b _ hb' with ⟨_, he⟩ | ⟨_, _, _, _, _, he, _⟩
            · subst he; simp
            · exact he
          have htl : ∀ f ∈ es.take n, f.length = i.sz := fun f hf' => hesl f (List.mem_of_mem_take hf')
          have htn : (es.take n).length = n := by simp; omega
          by_cases hroom : n + src.length ≤ c
          · -- in place
            rcases hh2 with ⟨hg, rfl, hsz⟩ | ⟨hg, rfl, rfl⟩
            · obtain ⟨_, cells, p, q1, q2, q3, q4⟩ := (hh.hp b _ hb').resolve_left fun g => hg g.1
              have hle : n * i.sz + new.toList.length ≤ cells.size := by
                have e1 : n * i.sz + new.toList.length = (n + src.length) * i.sz := by rw [Nat.add_mul]; simp [hn1]
                rw [e1, q1]
                exact Nat.le_trans (Nat.mul_le_mul_right _ hroom) (by simpa using hsz)
              have hst := run_stores (P := C.P) p (o := n * i.sz) (vs := new.toList) hle hn2
              obtain ⟨cells', k1, k2, k3, k4, k5, k6⟩ := setCells_heap (E.blk b) new.toList (n * i.sz) w cells p hle
              have hr := run_room (C := C) (ty := o.type) (a := some ⟨E.blk b, 0 * i.sz, none⟩) (w' := w.setCells (E.blk b) (n * i.sz) new.toList) (C.ok _ _ hi) u0 u1 hl hnew hroom (by simp only [addr_add, Nat.zero_mul, Nat.zero_add]; exact hst)
              have prk : ∀ r, E.pr r → (w.setCells (E.blk b) (n * i.sz) new.toList).heap[r]? = w.heap[r]? := fun r hr => k6 r fun er => (hh.un b _ hb').2 hg (hh.prfr _ (er ▸ hr))
              obtain ⟨s1, s2⟩ := hh.store (w' := w.setCells (E.blk b) (n * i.sz) new.toList) (B' := .row i.sz (es.take n ++ src)) hb' hg k5 k6 (sameIO_setCells _ _ _ _) (.inr ⟨hg, cells', k1, by rw [k2, q1], by
                  rw [k2, List.length_append, htn, Nat.add_mul, ← hn1]; simpa using hle, fun f hf' => (List.mem_append.1 hf').elim (htl f) (hsl f), fun j f k z hj hz => by
                  rw [List.getElem?_append] at hj
                  split at hj
                  · rename_i hlt
                    rw [htn] at hlt
                    rw [List.getElem?_take, if_pos hlt] at hj
                    have hk : k < i.sz := (hesl f (List.mem_of_getElem? hj)) ▸ (List.getElem?_eq_some_iff.1 hz).1
                    have h2 : (j + 1) * i.sz ≤ n * i.sz := Nat.mul_le_mul_right _ hlt
                    rw [Nat.succ_mul] at h2
                    rw [k3 _ (.inl (by omega))]
                    exact (q4 j f k z hj hz).mono prk (fun _ h => h)
                  · rename_i hge
                    rw [htn] at hge hj
                    have hlt := (List.getElem?_eq_some_iff.1 hj).1
                    have hk : k < i.sz := (hsl f (List.mem_of_getElem? hj)) ▸ (List.getElem?_eq_some_iff.1 hz).1
                    have h2 : (j - n + 1) * i.sz ≤ src.length * i.sz := Nat.mul_le_mul_right _ hlt
                    rw [Nat.succ_mul] at h2
                    have h3 : j * i.sz = n * i.sz + (j - n) * i.sz := by rw [← Nat.add_mul]; congr 1; omega
                    have := k4 ((j - n) * i.sz + k) (by simp [hn1]; omega)
                    rw [show j * i.sz + k = n * i.sz + ((j - n) * i.sz + k) by omega, this]
                    have := hn3 (j - n) f k z hj hz
                    have := this.mono prk (fun _ h => h) (pr' := E.pr)
                    simpa [List.getD, Array.getD_eq_getD_getElem?] using this⟩)
              have hb2 : setH H' b (some (.row i.sz (es.take n ++ src))) b = some (.row i.sz (es.take n ++ src)) := by simp [setH]
              obtain ⟨r1, r2⟩ := s1.rename hb2 hnx
              have eH : setH (setH (setH H' b (some (.row i.sz (es.take n ++ src)))) b none) nx (some (.row i.sz (es.take n ++ src))) = setH (setH H' b none) nx (some (.row i.sz (es.take n ++ src))) := by
                funext z; simp only [setH]; split <;> (try split) <;> rfl
              rw [eH] at r1
              refine ⟨_, _, E.alias nx b, .inl (hop _ _ hr), ?_, r1, s2.trans r2, fun z => by simp [Emb.alias, or_comm]⟩
              have := RepA.own (w := w.setCells (E.blk b) (n * i.sz) new.toList) (E := E.alias nx b) nx i.sz 0 (n + src.length) none c (.inl rfl) (by simpa [Emb.alias] using hg) hroom (by simp) (by simpa [Emb.alias] using hsz)
              simpa [Emb.alias] using this
            · have h0 : src.length = 0 := by omega
              have hsr : src = [] := List.length_eq_zero_iff.1 h0
              subst hsr
              have hnew0 : new = #[] := Array.eq_empty_of_size_eq_zero (by simpa using hn1)
              subst hnew0
              have hr := run_room (C := C) (ty := o.type) (w' := w) (a := ad) (C.ok _ _ hi) u0 u1 hl hnew (n := 0) (c := 0) (by simp) (by cases ad <;> simp [storeCells])
              have he0 : es = [] := by
                rcases hh.hp b _ hb' with ⟨_, he⟩ | ⟨g, _⟩
                · exact he
                · exact (g hg).elim
              subst he0
              obtain ⟨r1, r2⟩ := hh.rename hb' hnx
              exact ⟨_, w, E.alias nx b, .inl (hop _ _ hr), .own0 _ _ _ _ _ (.inl rfl) (by simpa [Emb.alias] using hg) (by simp), by simpa [updH] using r1, r2, fun z => by simp [Emb.alias, or_comm]⟩
          · -- new memory
            have hc : c < n + src.length := by omega
            have dI := hh.drew
            have dR : ∀ {z : AV} {u : Value}, RepA w E z u → RepA w.drew E z u := fun hz => RepA.mono (w := w) (w' := w.drew) (fun _ _ => rfl) (fun _ h => h) (fun _ h => ⟨h, rfl, rfl, .rfl⟩) hz
            obtain ⟨_, new', _, hnew', hn1', hn2', hn3'⟩ := hsrc H' g2' E w.drew _ dI (dR ry)
            -- what the base holds
            obtain ⟨_, old', ho'⟩ : True ∧ ∃ old', (Builtin.firstCells i.sz n (.slice ad n c)).run C.P w.drew = .ok old' w.drew ∧ old'.size = n * i.sz ∧ RowRep w.drew E.pr i.sz old' (es.take n) := by
              refine ⟨trivial, ?_⟩
              rcases hh2 with ⟨hg, rfl, hsz⟩ | ⟨hg, rfl, rfl⟩
              · obtain ⟨_, cells, p, q1, q2, q3, q4⟩ := (dI.hp b _ hb').resolve_left fun g => hg g.1
                have hnle : n * i.sz ≤ cells.size := Nat.le_trans (Nat.mul_le_mul_right _ hn) q2
                have hl2 := run_loadCells (P := C.P) w.drew ⟨E.blk b, 0 * i.sz, none⟩ (n * i.sz) (fun q => cells.getD q undef) (fun q hq => by
                  rw [addr_add, p.cell]
                  have hlt : q < cells.size := by omega
                  simp [Array.getD_eq_getD_getElem?, hlt])
                refine ⟨_, by simp only [Builtin.firstCells]; exact hl2, by simp, fun j f k z hj hz => ?_⟩
                rw [List.getElem?_take] at hj
                split at hj
                · rename_i hlt
                  have hk : k < i.sz := (hesl f (List.mem_of_getElem? hj)) ▸ (List.getElem?_eq_some_iff.1 hz).1
                  have h2 : (j + 1) * i.sz ≤ n * i.sz := Nat.mul_le_mul_right _ hlt
                  rw [Nat.succ_mul] at h2
                  have : ((List.range (n * i.sz)).map fun q => cells.getD q undef).toArray.getD (j * i.sz + k) undef = cells.getD (j * i.sz + k) undef := by
                    simp only [Array.getD_eq_getD_getElem?, List.getElem?_toArray, List.getElem?_map, List.getElem?_range (show j * i.sz + k < n * i.sz by omega), Option.map_some, Option.getD_some]
                  rw [this]; exact q4 j f k z hj hz
                · cases hj
              · refine ⟨#[], ?_, by simp, fun j f k z hj => by simp at hj⟩
                cases ad with
                | none => simp [Builtin.firstCells]
                | some p => simp [Builtin.firstCells, loadCells, loadCellsFrom]
            obtain ⟨hold', ho1', ho3'⟩ := ho'
            obtain ⟨rest, q, hr, hq1, hq2⟩ := run_grow (C := C) (ty := o.type) (C.ok _ _ hi) u0 u1 hl hold' hnew' hpos hc hbd ho1' hn1'
            have old_heap : ∀ r, r < w.heap.size → (w.drew.alloc (.cells (old' ++ new' ++ rest) e)).heap[r]? = w.heap[r]? := fun r hr => by
              simp only [World.alloc, drew_heap, Array.getElem?_push]; rw [if_neg (by omega)]
            have hrow := RowRep.append (c := rest) ho3' hn3' (by rw [htn]; exact ho1') hn1' htl hsl
            have hbk : (E.add nx w.heap.size (old' ++ new' ++ rest).size).blk nx = w.heap.size := by simp [Emb.add]
            have hp : Plain (w.drew.alloc (.cells (old' ++ new' ++ rest) e)) w.heap.size (old' ++ new' ++ rest) := ⟨e, 0, 0, by simp [World.alloc, drew_heap], fun _ _ => by omega⟩
            obtain ⟨k1, k2⟩ := (hh.drop b).alloc (w' := w.drew.alloc (.cells (old' ++ new' ++ rest) e)) (b := nx) (B := .row i.sz (es.take n ++ src)) (s := (old' ++ new' ++ rest).size) hnx (by simp [World.alloc, drew_heap]) old_heap ⟨rfl, rfl, rfl⟩
              (.inr ⟨by simp [Emb.add], _, by rw [hbk]; exact hp, by simp [Emb.add], Nat.le_trans (Nat.mul_le_mul_right _ (by rw [List.length_append, htn]; exact hq1)) hq2, fun f hf' => (List.mem_append.1 hf').elim (htl f) (hsl f),
                fun j f k z hj hz => (hrow j f k z hj hz).mono (fun r hr' => by rw [old_heap r (hh.frlt r (hh.prfr r hr'))]; rfl) (fun _ h => h)⟩)
            refine ⟨_, _, _, .inl (hop _ _ hr), ?_, k1, k2, fun z => by simp [Emb.add, or_comm]⟩
            have := RepA.own (w := w.drew.alloc (.cells (old' ++ new' ++ rest) e)) (E := E.add nx w.heap.size (old' ++ new' ++ rest).size) nx i.sz 0 (n + src.length) none q (.inl rfl) (by simp [Emb.add]) hq1 (by simp) (by simpa [Emb.add] using hq2)
            rw [hbk] at this
            simpa using this
        · exact h.elim
      · rename_i hx
        obtain ⟨hbd, h⟩ := h
        refine append_new (es := []) ho hat u0 u1 hi hpos (by simpa using hbd) hsrc (fun E w v hr => ?_) (by simpa using h)
        rw [hx] at hr
        refine ⟨none, 0, rep_sc hr, ?_, by simp, #[], by rw [rep_sc hr]; simp [Builtin.firstCells], by simp, by simp, fun j f k z hj => by simp at hj⟩
        cases src with
        | nil => exact .inr ⟨rfl, rfl, rfl⟩
        | cons s l => left; simp
      · rename_i st es cap hx
        replace h := ck_out h
        obtain ⟨hst, hcap, hbd, h⟩ := h
        have hst : st = i.sz := by simpa using hst
        subst hst
        refine append_new (es := es) ho hat u0 u1 hi hpos hbd hsrc (fun E w v hr => ?_) h
        rw [hx] at hr
        obtain ⟨a, nn, c, vs, e1, e2, e3, e4, e5, e6, e7⟩ := rep_ro hr
        have hr' : RepC w E.pr (.ro i.sz es cap) v := by cases hr with | cv _ _ h => exact h
        obtain ⟨r1, cells, r2, r3, r4⟩ := ro_cells (C := C) hr'
        subst e2
        refine ⟨a, c, e1, ?_, r1, cells, r3, r4⟩
        rcases hcap with h0 | ⟨c', h0, h1⟩
        · have := e4 0 h0
          subst this
          have : es = [] := List.length_eq_zero_iff.1 (by omega)
          subst this
          cases src with
          | nil => exact .inr ⟨rfl, rfl, rfl⟩
          | cons s l => left; simp
        · left; rw [e4 c' h0]; exact h1
      · exact h.elim
    · exact h.elim
  · exact h.elim
end
end Go.Proofs.Ytnffoddeppimkaa.AW
