/- Cells read and written. -/
import Derived.Test.YtnffoddeppimkaaAwB
import Derived.Laws.IdiomCopy
namespace Go.Proofs.Ytnffoddeppimkaa.AW
open Go

theorem addr_add (b o n : Nat) : (⟨b, o, none⟩ : Addr).add n = ⟨b, o + n, none⟩ := by unfold Addr.add; split <;> simp_all
theorem addr_add' {p : Addr} (h : p.spot = none) (n : Nat) : p.add n = ⟨p.block, p.off + n, none⟩ := by
  obtain ⟨b, o, s⟩ := p; simp only at h; subst h; exact addr_add b o n

theorem Plain.cell {w : World} {r : Nat} {cells : Array Value} (h : Plain w r cells) (o : Nat) : w.cell? ⟨r, o, none⟩ = cells[o]? := by
  obtain ⟨ty, lo, hi, h1, _⟩ := h; simp [World.cell?, h1]
theorem Plain.frozen {w : World} {r : Nat} {cells : Array Value} (h : Plain w r cells) {o : Nat} (ho : o < cells.size) : w.frozen? ⟨r, o, none⟩ = false := by
  obtain ⟨ty, lo, hi, h1, h2⟩ := h
  have := h2 o ho
  simp only [World.frozen?, h1]
  simpa using this
theorem Plain.lt {w : World} {r : Nat} {cells : Array Value} (h : Plain w r cells) : r < w.heap.size := by
  obtain ⟨ty, lo, hi, h1, h2⟩ := h
  exact Nat.lt_of_not_le fun hle => by rw [Array.getElem?_eq_none hle] at h1; cases h1

theorem setCells_heap (b : Nat) : ∀ (vs : List Value) (o : Nat) (w : World) (cells : Array Value), Plain w b cells → o + vs.length ≤ cells.size →
    ∃ cells', Plain (w.setCells b o vs) b cells' ∧ cells'.size = cells.size ∧ (∀ x, (x < o ∨ o + vs.length ≤ x) → cells'.getD x undef = cells.getD x undef) ∧ (∀ j, j < vs.length → cells'.getD (o + j) undef = vs.getD j undef) ∧
      (w.setCells b o vs).heap.size = w.heap.size ∧ ∀ r, r ≠ b → (w.setCells b o vs).heap[r]? = w.heap[r]?
  | [], o, w, cells, h, _ => ⟨cells, h, rfl, fun _ _ => rfl, fun _ hj => by simp at hj, rfl, fun _ _ => rfl⟩
  | v :: l, o, w, cells, h, hl => by
    simp only [List.length_cons] at hl
    have ho : o < cells.size := by omega
    have h1 : Plain (w.setCell ⟨b, o, none⟩ v) b (cells.setIfInBounds o v) := by
      obtain ⟨ty, lo, hi, e1, e2⟩ := h
      refine ⟨ty, lo, hi, ?_, fun x hx => e2 x (by simpa using hx)⟩
      simp [World.setCell, Array.getElem?_modify, e1]
    obtain ⟨c', g1, g2, g3, g4, g5, g6⟩ := setCells_heap b l (o + 1) (w.setCell ⟨b, o, none⟩ v) _ h1 (by simp; omega)
    refine ⟨c', g1, by simpa using g2, fun x hx => ?_, fun j hj => ?_, by simpa [World.setCells] using g5, fun r hr => ?_⟩
    · simp only [List.length_cons] at hx
      rw [g3 x (by omega)]
      simp only [Array.getD_eq_getD_getElem?]
      rw [Array.getElem?_setIfInBounds_ne (by omega)]
    · cases j with
      | zero =>
        rw [g3 (o + 0) (by omega)]
        simp [Array.getD_eq_getD_getElem?, ho]
      | succ j =>
        have := g4 j (by simpa using hj)
        rw [show o + (j + 1) = o + 1 + j by omega, this]
        simp [List.getD]
    · rw [World.setCells, g6 r hr]
      simp [World.setCell, Array.getElem?_modify, Ne.symm hr]

theorem sameIO_setCells (b : Nat) : ∀ (vs : List Value) (o : Nat) (w : World), SameIO w (w.setCells b o vs)
  | [], _, _ => ⟨rfl, rfl, rfl⟩
  | v :: l, o, w => SameIO.trans (b := w.setCell ⟨b, o, none⟩ v) ⟨rfl, rfl, rfl⟩ (sameIO_setCells b l (o + 1) _)
theorem run_stores {P : Program} {w : World} {b o : Nat} {vs : List Value} {cells : Array Value} (h : Plain w b cells) (hl : o + vs.length ≤ cells.size) (h1 : ∀ v ∈ vs, v.oneCell' = true) :
    (storeCells ⟨b, o, none⟩ vs).run P w = .ok () (w.setCells b o vs) := by
  have := run_storeCells_cells (P := P) b o vs 0 w (fun j hj => by rw [h.cell]; simp; omega) (fun j hj => h.frozen (by omega)) h1
  simpa using this

def oneA : AV → Bool
  | .cv _ | .ptr .. | .own .. | .ifc .. | .fn .. => true
  | _ => false
theorem one_rep {w : World} {E : Emb} {x : AV} {v : Value} (h : RepA w E x v) (ho : oneA x = true) : v.oneCell' = true ∧ v.cells = #[v] := by
  cases h with
  | cv c v h =>
    cases h with
    | sc v h1 => cases v <;> first | exact ⟨rfl, rfl⟩ | (simp [oneV] at h1)
    | ro => exact ⟨rfl, rfl⟩
    | rp => exact ⟨rfl, rfl⟩
    | ifc => exact ⟨rfl, rfl⟩
  | _ => first | exact ⟨rfl, rfl⟩ | (simp [oneA] at ho)

/-- the cells of a value -/
def cellsA : AV → Option (List AV)
  | .agg cs => if cs.all oneA then some cs else none
  | x => if oneA x then some [x] else none
theorem cells_rep {w : World} {E : Emb} {x : AV} {v : Value} {cs : List AV} (h : RepA w E x v) (hc : cellsA x = some cs) :
    v.cells.size = cs.length ∧ (∀ u ∈ v.cells.toList, u.oneCell' = true) ∧ ∀ k y, cs[k]? = some y → RepA w E y (v.cells.getD k undef) := by
  have single : oneA x = true → some [x] = some cs → v.cells.size = cs.length ∧ (∀ u ∈ v.cells.toList, u.oneCell' = true) ∧ ∀ k y, cs[k]? = some y → RepA w E y (v.cells.getD k undef) := fun ho e => by
    obtain ⟨h1, h2⟩ := one_rep h ho
    cases e
    rw [h2]
    refine ⟨rfl, fun u hu => by simp at hu; exact hu ▸ h1, fun k y hy => ?_⟩
    cases k with
    | zero => simp at hy; subst hy; exact h
    | succ k => simp at hy
  cases x with
  | agg l =>
    simp only [cellsA] at hc
    split at hc
    · rename_i hall
      cases hc
      cases h with
      | agg _ vs hs hr =>
        refine ⟨hs, fun u hu => ?_, hr⟩
        obtain ⟨k, hk, rfl⟩ := List.mem_iff_getElem.1 hu
        have hk' : k < vs.size := by simpa [Value.cells] using hk
        have hkl : k < cs.length := by omega
        have := hr k cs[k] (by simp [hkl])
        have o1 := (one_rep this (List.all_eq_true.1 hall _ (by simp))).1
        simpa [Array.getD_eq_getD_getElem?, hk', Value.cells] using o1
    · cases hc
  | _ =>
    simp only [cellsA] at hc
    split at hc
    · rename_i ho; exact single ho hc
    · cases hc

/-- closed, at sight -/
def closeA : AV → Option CV
  | .cv c => some c
  | _ => none
def closeL : List AV → Option (List CV)
  | [] => some []
  | x :: l => match closeA x, closeL l with
    | some c, some r => some (c :: r)
    | _, _ => none
theorem closeL_spec : ∀ {l : List AV} {r : List CV}, closeL l = some r → l = r.map .cv
  | [], r, h => by simp [closeL] at h; subst h; rfl
  | x :: l, r, h => by
    simp only [closeL] at h
    split at h
    · rename_i c r' h1 h2
      cases h
      rw [closeL_spec h2]
      cases x <;> simp [closeA] at h1
      simp [h1]
    · cases h

/-- types, as the walk must know them -/
inductive TK where
  | int (k : IntKind) | bool | str | slice (e : Nat) | ptr (e : Nat) | strct (fs : List (Nat × Nat)) | arr (n e : Nat) | iface | map (k e : Nat) | other
structure TI where
  agg : Bool
  sz : Nat
  bytes : Nat
  kind : TK
  zero : List Value
def isAggD : TypeDesc → Bool
  | .struct _ | .array _ _ => true
  | _ => false
def kindOk (d : TypeDesc) : TK → Prop
  | .int k => d = .int k
  | .bool => d = .bool
  | .str => d = .string
  | .slice e => d = .slice e
  | .ptr e => d = .pointer e
  | .strct fs => ∃ F, d = .struct F ∧ F.toList.map (fun f => (f.offset, f.type)) = fs
  | .arr n e => d = .array n e
  | .iface => ∃ m, d = .interface m
  | .map k e => d = .map k e
  | .other => True
def zeroOk (i : TI) (z : Value) : Prop := match i.agg with
  | true => z = .agg i.zero.toArray
  | false => ∃ u, i.zero = [u] ∧ z = u ∧ oneV u = true
structure TIok (P : Program) (t : TypeId) (i : TI) : Prop where
  inf : ∃ inf, P.info? t = some inf ∧ inf.size = i.sz ∧ inf.bytes = i.bytes ∧ ∃ z, inf.zero = some z ∧ zeroOk i z
  und : ∃ d, P.underlying t = some d ∧ isAggD d = i.agg ∧ kindOk d i.kind
  len : i.zero.length = i.sz
  one : i.zero.all oneV = true
structure Ctx where
  P : Program
  ti : Nat → Option TI
  ok : ∀ t i, ti t = some i → TIok P t i

section
variable {P : Program} {t : TypeId} {i : TI}
theorem run_underlying {d : TypeDesc} (h : P.underlying t = some d) (w : World) : (underlying t).run P w = .ok d w := by simp [underlying, h]
theorem TIok.run_isAgg (h : TIok P t i) (w : World) : (isAgg t).run P w = .ok i.agg w := by
  obtain ⟨d, h1, h2, _⟩ := h.und
  have hr := run_underlying h1 w
  unfold isAgg
  rw [Sem.run_bind, hr]
  cases d <;> simp [isAggD] at h2 <;> simp [← h2]
theorem TIok.run_typeInfo (h : TIok P t i) (w : World) : ∃ inf, (typeInfo t).run P w = .ok inf w ∧ inf.size = i.sz ∧ inf.bytes = i.bytes ∧ P.info? t = some inf := by
  obtain ⟨inf, h1, h2, h3, _⟩ := h.inf
  exact ⟨inf, by simp [typeInfo, h1], h2, h3, h1⟩
theorem TIok.run_sizeOf (h : TIok P t i) (w : World) : (sizeOf t).run P w = .ok i.sz w := by
  obtain ⟨inf, h1, h2, _⟩ := h.run_typeInfo w
  simp [sizeOf, h1, h2]
theorem TIok.run_zero (h : TIok P t i) (w : World) : ∃ z, (zeroValue t).run P w = .ok z w ∧ zeroOk i z := by
  obtain ⟨inf, h1, h2, h3, z, h4, h5⟩ := h.inf
  exact ⟨z, by simp [zeroValue, typeInfo, h1, h4], h5⟩
end
theorem zero_cells {i : TI} {z : Value} (h : zeroOk i z) : z.cells = i.zero.toArray := by
  unfold zeroOk at h
  split at h
  · rw [h]; rfl
  · obtain ⟨u, h1, rfl, h3⟩ := h
    rw [h1]
    cases z <;> first | rfl | (simp [oneV] at h3)

/-- a variable read: its cells are known -/
theorem run_loadVar {P : Program} {t : TypeId} {i : TI} (h : TIok P t i) {w : World} {p : Addr} (hp : p.spot = none) (f : Nat → Value) (hc : ∀ k, k < i.sz → cellAt w p.block (p.off + k) = some (f k)) (h0 : i.agg = false → i.sz = 1) :
    (loadVar t p).run P w = .ok (if i.agg then .agg ((List.range i.sz).map f).toArray else f 0) w := by
  simp only [loadVar, Sem.run_bind, h.run_isAgg, Result.andThen_ok]
  cases ha : i.agg with
  | true =>
    have := run_loadCells (P := P) w p i.sz f (fun j hj => by rw [addr_add' hp]; exact hc j hj)
    simp [h.run_sizeOf, this]
  | false =>
    have := hc 0 (by rw [h0 ha]; omega)
    rw [Nat.add_zero] at this
    have e : w.cell? p = some (f 0) := by
      obtain ⟨b, o, s⟩ := p; simp only at hp; subst hp; exact this
    simp [e]
end Go.Proofs.Ytnffoddeppimkaa.AW
