/- Operations: cells made, read, written; addresses. -/
import Derived.Test.YtnffoddeppimkaaAwD
namespace Go.Proofs.Ytnffoddeppimkaa.AW
open Go

section
variable {C : Ctx} {o : Oper} {N : Nat} {T : Nat → AV} {H : Nat → Option Block}

theorem plain_new {w : World} {cells : Array Value} {ty : TypeId} : Plain { w with heap := w.heap.push (.cells cells ty) } w.heap.size cells := ⟨ty, 0, 0, by simp, fun _ _ => by omega⟩
theorem push_old {w : World} {x : Obj} {r : Nat} (h : r < w.heap.size) : ({ w with heap := w.heap.push x } : World).heap[r]? = w.heap[r]? := by
  simp only [Array.getElem?_push]; rw [if_neg (by omega)]

/-- a box is made -/
theorem does_box {nx : Nat} {K : Eff → Prop} {cs : List AV} (hk : K ⟨.ptr nx cs.length 0 0, [(nx, some (.box cs))], [nx], []⟩)
    (h : ∀ T', (∀ x ∈ o.op.operands, ev T' x = ev T x) → ∀ E a w, TInv N E T' a w → ∃ (cells : Array Value) (ty : TypeId), (execOp a.eval o).run C.P w = .ok (.value (.pointer (some ⟨w.heap.size, 0, none⟩))) { w with heap := w.heap.push (.cells cells ty) } ∧
      cells.size = cs.length ∧ ∀ k x, cs[k]? = some x → RepA w E x (cells.getD k undef)) : Does C o N T H nx K := by
  refine ⟨_, loc_mk fun T' H' h1 _ E a w ht hh hf => ?_, rfl, hk⟩
  obtain ⟨cells, ty, hr, hs, hc⟩ := h T' h1 E a w ht
  have hn : ¬ E.U nx := hf nx (by simp)
  have nm := Emb.add_nm (r := w.heap.size) (s := cells.size) hn
  have old : ∀ r, r < w.heap.size → ({ w with heap := w.heap.push (.cells cells ty) } : World).heap[r]? = w.heap[r]? := fun r hr => push_old hr
  have pr : ∀ r, E.pr r → ({ w with heap := w.heap.push (.cells cells ty) } : World).heap[r]? = w.heap[r]? := fun r hr => old r (hh.frlt r (hh.prfr r hr))
  have hb : (E.add nx w.heap.size cells.size).blk nx = w.heap.size := by simp [Emb.add]
  obtain ⟨g1, g2⟩ := hh.alloc (B := .box cs) (s := cells.size) hn (by simp) old ⟨rfl, rfl, rfl⟩ ⟨by simp [Emb.add], cells, by rw [hb]; exact plain_new, by simp [Emb.add], by omega, fun k x hx => (hc k x hx).mono (E' := E.add nx w.heap.size cells.size) pr (fun _ h => h) nm⟩
  refine ⟨_, _, E.add nx w.heap.size cells.size, .inl hr, ?_, g1, g2, fun b => by simp [Emb.add, or_comm]⟩
  have := RepA.ptr (w := { w with heap := w.heap.push (.cells cells ty) }) (E := E.add nx w.heap.size cells.size) nx cs.length 0 0 (.inl rfl) (by simp [Emb.add])
  rw [hb] at this; simpa using this

def zeroA (i : TI) : List AV := i.zero.map fun v => .cv (.sc v)
def vAlloc (C : Ctx) (t : TypeId) (nx : Nat) (K : Eff → Prop) : Prop := match C.ti t with
  | some i => K ⟨.ptr nx (zeroA i).length 0 0, [(nx, some (.box (zeroA i)))], [nx], []⟩
  | none => False
theorem zeroA_rep {w : World} {E : Emb} {i : TI} (h1 : i.zero.all oneV = true) : ∀ k x, (zeroA i)[k]? = some x → RepA w E x (i.zero.toArray.getD k undef) := fun k x hx => by
  simp only [zeroA, List.getElem?_map, Option.map_eq_some_iff] at hx
  obtain ⟨v, hv, rfl⟩ := hx
  have : i.zero.toArray.getD k undef = v := by simp [Array.getD_eq_getD_getElem?, hv]
  rw [this]; exact .cv _ _ (.sc _ (List.all_eq_true.1 h1 v (List.mem_of_getElem? hv)))
theorem vAlloc_ok {nx : Nat} {K : Eff → Prop} {t : TypeId} (ho : o.op = .alloc t) (h : vAlloc C t nx K) : Does C o N T H nx K := by
  unfold vAlloc at h
  split at h
  · rename_i i hi
    refine does_box h fun T' _ E a w _ => ?_
    obtain ⟨z, hz, h5⟩ := (C.ok _ _ hi).run_zero w
    refine ⟨i.zero.toArray, t, ?_, by simp [zeroA], zeroA_rep (C.ok _ _ hi).one⟩
    simp only [execOp, ho, Instr.alloc]
    simp [hz, newVar, newRow, zero_cells h5]
  · exact h.elim

def vBox (x : AV) (nx : Nat) (K : Eff → Prop) : Prop := match cellsA x with
  | some cs => K ⟨.ptr nx cs.length 0 0, [(nx, some (.box cs))], [nx], []⟩
  | none => False
theorem vBox_ok {nx : Nat} {K : Eff → Prop} {t : TypeId} {x : Operand} (ho : o.op = .box t x) (h : vBox (ev T x) nx K) : Does C o N T H nx K := by
  have mx : x ∈ o.op.operands := by simp [ho, Op.operands]
  unfold vBox at h
  split at h
  · rename_i cs hc
    refine does_box h fun T' h1 E a w ht => ?_
    obtain ⟨g1, _, g3⟩ := cells_rep (rep_at ht (h1 x mx) rfl) hc
    exact ⟨(a.eval x).cells, t, by simp [execOp, ho, Instr.box, newVar, newRow], g1, g3⟩
  · exact h.elim

/-! a variable read -/
def mkVar (agg : Bool) (cs : List AV) : Option AV := if agg then some (.agg cs) else match cs with
  | [x] => some x
  | _ => none
def vLoadB (i : TI) (b st j k : Nat) : Option Block → (Eff → Prop) → Prop
  | some (.box cs), K => ck (j == 0) <| match mkVar i.agg ((cs.drop k).take i.sz), ((cs.drop k).take i.sz).length == i.sz with
    | some v, true => K ⟨v, [], [], [b]⟩
    | _, _ => False
  | some (.row st' es), K => ck (st == st') <| ∃ e, es[j]? = some e ∧ match mkVar i.agg (((e.drop k).take i.sz).map .cv), ((e.drop k).take i.sz).length == i.sz with
    | some v, true => K ⟨v, [], [], [b]⟩
    | _, _ => False
  | none, _ => False
def vLoad (C : Ctx) (t : TypeId) (x : AV) (H : Nat → Option Block) (K : Eff → Prop) : Prop := match C.ti t, x with
  | some i, .ptr b st j k => vLoadB i b st j k (H b) K
  | some i, .cv (.rp cs) => match mkVar i.agg ((cs.take i.sz).map .cv), (cs.take i.sz).length == i.sz with
    | some v, true => K ⟨v, [], [], []⟩
    | _, _ => False
  | _, _ => False
theorem mkVar_run {w : World} {E : Emb} {i : TI} {t : TypeId} {p : Addr} (hi : TIok C.P t i) (hp : p.spot = none) {cs : List AV} {v : AV} (hm : mkVar i.agg cs = some v) (hl : cs.length = i.sz) (f : Nat → Value)
    (hc : ∀ k, k < i.sz → cellAt w p.block (p.off + k) = some (f k)) (hr : ∀ k x, cs[k]? = some x → RepA w E x (f k)) : ∃ u, (loadVar t p).run C.P w = .ok u w ∧ RepA w E v u := by
  refine ⟨_, run_loadVar hi hp f hc (fun ha => ?_), ?_⟩
  · simp only [mkVar, ha] at hm
    split at hm
    · rename_i h; cases h
    · split at hm
      · exact hl.symm
      · cases hm
  · unfold mkVar at hm
    split at hm
    · rename_i ha
      cases hm
      rw [if_pos ha]
      refine .agg _ _ (by simp [hl]) fun k x hx => ?_
      have hk : k < i.sz := hl ▸ (List.getElem?_eq_some_iff.1 hx).1
      have : ((List.range i.sz).map f).toArray.getD k undef = f k := by simp [Array.getD_eq_getD_getElem?, hk]
      rw [this]; exact hr k x hx
    · rename_i ha
      rw [if_neg ha]
      split at hm
      · cases hm; exact hr 0 _ rfl
      · cases hm
theorem take_drop_get {α : Type} {l : List α} {k n j : Nat} {x : α} (h : ((l.drop k).take n)[j]? = some x) : l[k + j]? = some x ∧ j < n := by
  rw [List.getElem?_take] at h
  split at h
  · rename_i hj; exact ⟨by simpa using h, hj⟩
  · cases h
theorem vLoad_ok {nx : Nat} {K : Eff → Prop} {t : TypeId} {x : Operand} (ho : o.op = .load t x) (h : vLoad C t (ev T x) H K) : Does C o N T H nx K := by
  have mx : x ∈ o.op.operands := by simp [ho, Op.operands]
  have fin : ∀ (a : Act) (w : World) (p : Addr) (u : Value), a.eval x = .pointer (some p) → (loadVar t p).run C.P w = .ok u w → (execOp a.eval o).run C.P w = .ok (.value u) w := fun a w p u e hu => by
    simp only [execOp, ho, e, Instr.loadAt, Instr.sureAddr]
    rw [Sem.run_bind, Sem.run_bind]; simp [hu]
  unfold vLoad at h
  split at h
  · rename_i i b st j k hi hx
    unfold vLoadB at h
    split at h
    · rename_i cs hb
      replace h := ck_out h
      obtain ⟨hj, h⟩ := h
      have hj : j = 0 := by simpa using hj
      split at h
      · rename_i v hm hl
        have hl : ((cs.drop k).take i.sz).length = i.sz := by simpa using hl
        refine does_val h fun T' H' h1 h2 E a w ht hh => ?_
        obtain ⟨_, e⟩ := rep_ptr (rep_at ht (h1 x mx) hx)
        obtain ⟨_, cells, p, hs, hle, hc⟩ := hh.hp b _ ((h2 b (by simp)).trans hb)
        have hlen : k + i.sz ≤ cs.length ∨ i.sz = 0 := by simp only [List.length_take, List.length_drop] at hl; omega
        obtain ⟨u, hu, hr⟩ := mkVar_run (C := C) (w := w) (E := E) (C.ok _ _ hi) (p := ⟨E.blk b, j * st + k, none⟩) rfl hm hl (fun q => cells.getD (k + q) undef) (fun q hq => by
            have : k + q < cells.size := by omega
            simp [cellAt, p.cell, hj, Array.getD_eq_getD_getElem?, this]) (fun q y hy => hc _ _ (take_drop_get hy).1)
        exact ⟨u, w, fin a w _ u e hu, rfl, hr⟩
      · exact h.elim
    · rename_i st' es hb
      replace h := ck_out h
      obtain ⟨hst, e', he, h⟩ := h
      have hst : st = st' := by simpa using hst
      subst hst
      split at h
      · rename_i v hm hl
        have hl : ((e'.drop k).take i.sz).length = i.sz := by simpa using hl
        refine does_val h fun T' H' h1 h2 E a w ht hh => ?_
        obtain ⟨_, e⟩ := rep_ptr (rep_at ht (h1 x mx) hx)
        obtain ⟨_, cells, p, hs, hle, hel, hc⟩ := (hh.hp b _ ((h2 b (by simp)).trans hb)).resolve_left fun g => rep_ptr_g (rep_at ht (h1 x mx) hx) g.1
        have hlen : k + i.sz ≤ e'.length ∨ i.sz = 0 := by simp only [List.length_take, List.length_drop] at hl; omega
        have hes : e'.length = st := hel _ (List.mem_of_getElem? he)
        have hjl : j < es.length := (List.getElem?_eq_some_iff.1 he).1
        have hjs : j * st + st ≤ es.length * st := by
          have : (j + 1) * st ≤ es.length * st := Nat.mul_le_mul_right _ hjl
          simpa [Nat.succ_mul] using this
        obtain ⟨u, hu, hr⟩ := mkVar_run (C := C) (w := w) (E := E) (C.ok _ _ hi) (p := ⟨E.blk b, j * st + k, none⟩) rfl hm (by simpa using hl) (fun q => cells.getD (j * st + (k + q)) undef) (fun q hq => by
            have : j * st + k + q < cells.size := by omega
            simp [cellAt, p.cell, Array.getD_eq_getD_getElem?, this, ← Nat.add_assoc]) (fun q y hy => by
            simp only [List.getElem?_map, Option.map_eq_some_iff] at hy
            obtain ⟨c, hcq, rfl⟩ := hy
            exact .cv _ _ (hc j e' (k + q) c he (take_drop_get hcq).1))
        exact ⟨u, w, fin a w _ u e hu, rfl, hr⟩
      · exact h.elim
    · exact h.elim
  · rename_i i cs hi hx
    split at h
    · rename_i v hm hl
      have hl : (cs.take i.sz).length = i.sz := by simpa using hl
      refine does_val h fun T' H' h1 h2 E a w ht hh => ?_
      obtain ⟨p, vs, e, hsp, hpr, hc, hr⟩ := rep_rp (rep_at ht (h1 x mx) hx)
      have hlen : i.sz ≤ cs.length := by simp only [List.length_take] at hl; omega
      obtain ⟨u, hu, hr⟩ := mkVar_run (C := C) (w := w) (E := E) (C.ok _ _ hi) hsp hm (by simpa using hl) vs (fun q hq => hc q cs[q] (by simp)) (fun q y hy => by
          simp only [List.getElem?_map, Option.map_eq_some_iff] at hy
          obtain ⟨c, hcq, rfl⟩ := hy
          rw [List.getElem?_take] at hcq
          split at hcq
          · exact .cv _ _ (hr q c hcq)
          · cases hcq)
      exact ⟨u, w, fin a w _ u e hu, rfl, hr⟩
    · exact h.elim
  · exact h.elim

/-! a variable written -/
def splice {α : Type} (l : List α) (k : Nat) (cs : List α) : List α := l.take k ++ cs ++ l.drop (k + cs.length)
theorem splice_get {α : Type} {l : List α} {k : Nat} {cs : List α} (hk : k + cs.length ≤ l.length) (q : Nat) : (splice l k cs)[q]? = if q < k then l[q]? else if q < k + cs.length then cs[q - k]? else l[q]? := by
  unfold splice
  have h1 : (l.take k).length = k := by simp; omega
  by_cases a : q < k
  · rw [if_pos a, List.append_assoc, List.getElem?_append_left (by omega), List.getElem?_take, if_pos a]
  · rw [if_neg a]
    by_cases b : q < k + cs.length
    · rw [if_pos b, List.append_assoc, List.getElem?_append_right (by omega), h1, List.getElem?_append_left (by omega)]
    · rw [if_neg b, List.getElem?_append_right (by simp; omega), List.getElem?_drop]
      congr 1; simp; omega
theorem splice_len {α : Type} {l : List α} {k : Nat} {cs : List α} (hk : k + cs.length ≤ l.length) : (splice l k cs).length = l.length := by simp [splice]; omega

def vStoreB (b st j k : Nat) (cs : List AV) : Option Block → (Eff → Prop) → Prop
  | some (.box l), K => ck (j == 0 && decide (k + cs.length ≤ l.length)) <| K ⟨.any, [(b, some (.box (splice l k cs)))], [], [b]⟩
  | some (.row st' es), K => match closeL cs with
    | some c => ck (st == st') <| ∃ e, es[j]? = some e ∧ k + c.length ≤ e.length ∧ K ⟨.any, [(b, some (.row st (es.set j (splice e k c))))], [], [b]⟩
    | none => False
  | none, _ => False
def vStore (C : Ctx) (t : TypeId) (x v : AV) (H : Nat → Option Block) (K : Eff → Prop) : Prop := match C.ti t, x, cellsA v with
  | some i, .ptr b st j k, some cs => ck (cs.length == i.sz) <| vStoreB b st j k cs (H b) K
  | _, _, _ => False
theorem vStore_ok {nx : Nat} {K : Eff → Prop} {t : TypeId} {x v : Operand} (ho : o.op = .store t x v) (h : vStore C t (ev T x) (ev T v) H K) : Does C o N T H nx K := by
  have mx : x ∈ o.op.operands := by simp [ho, Op.operands]
  have mv : v ∈ o.op.operands := by simp [ho, Op.operands]
  unfold vStore at h
  split at h
  · rename_i i b st j k cs hi hx hv
    replace h := ck_out h
    obtain ⟨hsz, h⟩ := h
    have hsz : cs.length = i.sz := by simpa using hsz
    have fin : ∀ (E : Emb) (a : Act) (w : World) (cells : Array Value), a.eval x = .pointer (some ⟨E.blk b, j * st + k, none⟩) → Plain w (E.blk b) cells → j * st + k + cs.length ≤ cells.size → (a.eval v).cells.size = cs.length → (∀ u ∈ (a.eval v).cells.toList, u.oneCell' = true) →
        (execOp a.eval o).run C.P w = .ok .skip (w.setCells (E.blk b) (j * st + k) (a.eval v).cells.toList) := fun E a w cells e p hle hn h1 => by
      have hst := run_stores (P := C.P) p (o := j * st + k) (vs := (a.eval v).cells.toList) (by simpa [hn] using hle) h1
      simp only [execOp, ho, e, Instr.storeAt, Instr.sureAddr]
      rw [Sem.run_bind]
      simp only [Sem.run_bind, Sem.run_pure, Result.andThen_ok, storeVar, (C.ok _ _ hi).run_sizeOf, hn, hsz]
      simp [hst]
    unfold vStoreB at h
    split at h
    · rename_i l hb
      replace h := ck_out h
      obtain ⟨hj, h⟩ := h
      simp only [Bool.and_eq_true, beq_iff_eq, decide_eq_true_eq] at hj
      obtain ⟨hj, hkl⟩ := hj
      refine ⟨_, loc_mk fun T' H' h1 h2 E a w ht hh _ => ?_, rfl, h⟩
      obtain ⟨hU, e⟩ := rep_ptr (rep_at ht (h1 x mx) hx)
      obtain ⟨c1, c2, c3⟩ := cells_rep (rep_at ht (h1 v mv) rfl) hv
      have hb' := (h2 b (by simp)).trans hb
      obtain ⟨hg, cells, p, hs, hle, hc⟩ := hh.hp b _ hb'
      have hrun := fin E a w cells e p (by rw [hj]; omega) c1 c2
      obtain ⟨cells', g1, g2, g3, g4, g5, g6⟩ := setCells_heap (E.blk b) (a.eval v).cells.toList (j * st + k) w cells p (by simp [c1, hj]; omega)
      have prk : ∀ r, E.pr r → (w.setCells (E.blk b) (j * st + k) (a.eval v).cells.toList).heap[r]? = w.heap[r]? := fun r hr => g6 r fun er => (hh.un b _ hb').2 hg (hh.prfr _ (er ▸ hr))
      obtain ⟨k1, k2⟩ := hh.store (w' := w.setCells (E.blk b) (j * st + k) (a.eval v).cells.toList) (B' := .box (splice l k cs)) hb' hg g5 g6 (sameIO_setCells _ _ _ _) ⟨hg, cells', g1, by rw [g2, hs], by rw [splice_len hkl, g2]; exact hle, fun q y hy => by
        rw [splice_get hkl] at hy
        simp only [hj, Nat.zero_mul, Nat.zero_add, Array.length_toList, c1] at g3 g4
        split at hy
        · rw [g3 q (by omega)]; exact (hc q y hy).mono prk (fun _ h => h) (fun _ h => ⟨h, rfl, rfl, .rfl⟩)
        · split at hy
          · have := g4 (q - k) (by omega)
            rw [show k + (q - k) = q by omega] at this
            rw [this]
            have := (c3 (q - k) y hy).mono prk (fun _ h => h) (fun _ h => ⟨h, rfl, rfl, .rfl⟩) (E' := E)
            simpa [List.getD, Array.getD_eq_getD_getElem?] using this
          · rw [g3 q (by omega)]; exact (hc q y hy).mono prk (fun _ h => h) (fun _ h => ⟨h, rfl, rfl, .rfl⟩)⟩
      exact ⟨undef, _, E, .inr ⟨hrun, rfl⟩, .any _, k1, k2, fun b => by simp⟩
    · rename_i st' es hb
      split at h
      · rename_i c hcl
        replace h := ck_out h
        obtain ⟨hst, e', he, hkl, h⟩ := h
        have hst : st = st' := by simpa using hst
        subst hst
        have hcs := closeL_spec hcl
        have hlen : cs.length = c.length := by rw [hcs]; simp
        refine ⟨_, loc_mk fun T' H' h1 h2 E a w ht hh _ => ?_, rfl, h⟩
        obtain ⟨hU, e⟩ := rep_ptr (rep_at ht (h1 x mx) hx)
        obtain ⟨c1, c2, c3⟩ := cells_rep (rep_at ht (h1 v mv) rfl) hv
        have hb' := (h2 b (by simp)).trans hb
        obtain ⟨hg, cells, p, hs, hle, hel, hc⟩ := (hh.hp b _ hb').resolve_left fun g => rep_ptr_g (rep_at ht (h1 x mx) hx) g.1
        have hes : e'.length = st := hel _ (List.mem_of_getElem? he)
        have hjl : j < es.length := (List.getElem?_eq_some_iff.1 he).1
        have hjs : j * st + st ≤ es.length * st := by
          have : (j + 1) * st ≤ es.length * st := Nat.mul_le_mul_right _ hjl
          simpa [Nat.succ_mul] using this
        have hrun := fin E a w cells e p (by omega) c1 c2
        obtain ⟨cells', g1, g2, g3, g4, g5, g6⟩ := setCells_heap (E.blk b) (a.eval v).cells.toList (j * st + k) w cells p (by simp [c1]; omega)
        simp only [Array.length_toList, c1] at g3 g4
        have prk : ∀ r, E.pr r → (w.setCells (E.blk b) (j * st + k) (a.eval v).cells.toList).heap[r]? = w.heap[r]? := fun r hr => g6 r fun er => (hh.un b _ hb').2 hg (hh.prfr _ (er ▸ hr))
        obtain ⟨k1, k2⟩ := hh.store (w' := w.setCells (E.blk b) (j * st + k) (a.eval v).cells.toList) (B' := .row st (es.set j (splice e' k c))) hb' hg g5 g6 (sameIO_setCells _ _ _ _) (.inr ⟨hg, cells', g1, by rw [g2, hs], by simpa [g2] using hle, fun y hy => by
            rcases List.mem_or_eq_of_mem_set hy with hy | rfl
            · exact hel y hy
            · rw [splice_len hkl, hes], fun q y r z hy hz => by
            rw [List.getElem?_set] at hy
            by_cases eq : j = q
            · subst eq
              rw [if_pos rfl] at hy
              simp only [hjl, if_true, Option.some.injEq] at hy
              subst hy
              rw [splice_get hkl] at hz
              split at hz
              · rw [g3 _ (by omega)]; exact (hc j e' r z he hz).mono prk (fun _ h => h)
              · split at hz
                · have := g4 (r - k) (by omega)
                  rw [show j * st + k + (r - k) = j * st + r by omega] at this
                  rw [this]
                  have r1 : cs[r - k]? = some (.cv z) := by rw [hcs, List.getElem?_map, hz]; rfl
                  have := c3 (r - k) _ r1
                  cases this with
                  | cv _ _ hz' =>
                    have := hz'.mono prk (fun _ h => h) (pr' := E.pr)
                    simpa [List.getD, Array.getD_eq_getD_getElem?] using this
                · rw [g3 _ (by omega)]; exact (hc j e' r z he hz).mono prk (fun _ h => h)
            · rw [if_neg eq] at hy
              have hql : q < es.length := (List.getElem?_eq_some_iff.1 hy).1
              have hrl : r < st := (hel y (List.mem_of_getElem? hy)) ▸ (List.getElem?_eq_some_iff.1 hz).1
              rw [g3 _ (by
                rcases Nat.lt_or_gt_of_ne eq with g | g
                · right
                  have : (j + 1) * st ≤ q * st := Nat.mul_le_mul_right _ g
                  simp only [Nat.succ_mul] at this; omega
                · left
                  have : (q + 1) * st ≤ j * st := Nat.mul_le_mul_right _ g
                  simp only [Nat.succ_mul] at this; omega)]
              exact (hc q y r z hy hz).mono prk (fun _ h => h)⟩)
        exact ⟨undef, _, E, .inr ⟨hrun, rfl⟩, .any _, k1, k2, fun b => by simp⟩
      · exact h.elim
    · exact h.elim
  · exact h.elim
end
end Go.Proofs.Ytnffoddeppimkaa.AW
