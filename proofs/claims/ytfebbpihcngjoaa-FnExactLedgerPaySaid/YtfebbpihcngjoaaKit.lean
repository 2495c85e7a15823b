/- Small lemmas on worlds and endings that all walks of this seat use. -/
import Derived.Test.YtfebbpihcngjoaaProg
import Derived.WalkKit
import Derived.KernelRfl
import Derived.Lib.Hide
import Derived.WalkSpells
import Derived.WalkSmall
import Derived.Deep.QuietTactic
import Derived.BigQuiet
import Derived.StillTailTactics
import Derived.Deep.RegionHeld3
namespace Go.Proofs.Ytfebbpihcngjoaa
open Go.RowKit

/-- the walk halts here -/
@[irreducible] def Stop (p : Prop) : Prop := p
theorem stop {p : Prop} (h : Stop p) : p := by unfold Stop at h; exact h
theorem goon {p : Prop} (h : p) : Stop p := by unfold Stop; exact h

theorem ret_i {k : IntKind} {a b : Int} (h : a = b) : Ending.returned (.int k a) = .returned (.int k b) := by rw [h]
theorem ret_b {a b : Bool} (h : a = b) : Ending.returned (.bool a) = .returned (.bool b) := by rw [h]

theorem bcell {W w1 : World} (hb : Below W.heap.size W w1) : (∀ b o, b < W.heap.size → w1.cell? ⟨b, o, none⟩ = W.cell? ⟨b, o, none⟩) ∧ (∀ b o, b < W.heap.size → w1.frozen? ⟨b, o, none⟩ = W.frozen? ⟨b, o, none⟩) :=
  ⟨fun b o h => hb.cell (p := ⟨b, o, none⟩) h, fun b o h => hb.frozen (p := ⟨b, o, none⟩) h⟩

theorem bl_refl (w : World) : Below w.heap.size w w := Below.refl _ _
theorem bl_alloc {w w1 : World} (h : Below w.heap.size w w1) (o : Obj) : Below w.heap.size w (w1.alloc o) := h.alloc h.size o
theorem bl_drew {w w1 : World} (h : Below w.heap.size w w1) : Below w.heap.size w w1.drew := h.drew
theorem bl_drewN {w w1 : World} (h : Below w.heap.size w w1) (n : Nat) : Below w.heap.size w (w1.drewN n) := below_drewN h n
theorem bl_set {w w1 : World} {a : Addr} (h : Below w.heap.size w w1) (ha : w.heap.size ≤ a.block) (v : Value) : Below w.heap.size w (w1.setCell a v) := h.setCell ha v
theorem bl_call {w w1 w2 : World} (k : Below w1.heap.size w1 w2) (h : Below w.heap.size w w1) : Below w.heap.size w w2 := h.trans (k.mono h.size)

/-- what cells hold -/
def CellsL (w : World) : List (Addr × Value) → Prop
  | [] => True
  | (a, v) :: r => w.cell? a = some v ∧ CellsL w r
@[go_sem] theorem drewN_alloc' (w : World) (n : Nat) (o : Obj) : (w.drewN n).alloc o = (w.alloc o).drewN n := rfl
@[go_sem] theorem drewN_setCell' (w : World) (n : Nat) (a : Addr) (v : Value) : (w.drewN n).setCell a v = (w.setCell a v).drewN n := rfl

/-- what the cells of a call's own hold; and that they may be written -/
def Locals (w : World) : List (Addr × Value) → Prop
  | [] => True
  | (a, v) :: r => (w.cell? a = some v ∧ w.frozen? a = false) ∧ Locals w r
theorem lt_of_cell {w : World} {a : Addr} {v : Value} (h : w.cell? a = some v) : a.block < w.heap.size := by
  unfold World.cell? at h
  cases hb : w.heap[a.block]? with
  | none => rw [hb] at h; cases h
  | some o => exact (Array.getElem?_eq_some_iff.1 hb).1
theorem Locals.call {Y w1 : World} (hb : Below Y.heap.size Y w1) : ∀ {L : List (Addr × Value)}, Locals Y L → Locals w1 L
  | [], _ => trivial
  | (a, v) :: r, ⟨⟨h1, h2⟩, h3⟩ => ⟨⟨by rw [hb.cell (lt_of_cell h1)]; exact h1, by rw [hb.frozen (lt_of_cell h1)]; exact h2⟩, Locals.call hb h3⟩

theorem CellsL.call {Y w1 : World} (hb : Below Y.heap.size Y w1) : ∀ {L : List (Addr × Value)}, CellsL Y L → CellsL w1 L
  | [], _ => trivial
  | (a, v) :: r, ⟨h1, h3⟩ => ⟨by rw [hb.cell (lt_of_cell h1)]; exact h1, CellsL.call hb h3⟩

/-- the cells from block B on hold what they held -/
def Keeps (B : Nat) (w w' : World) : Prop := ∀ a v, w.cell? a = some v → B ≤ a.block → w'.cell? a = some v
theorem Keeps.refl (B : Nat) (w : World) : Keeps B w w := fun _ _ h _ => h
theorem Keeps.alloc {B : Nat} {w w1 : World} (h : Keeps B w w1) (o : Obj) : Keeps B w (w1.alloc o) := fun a v hc hB => by
  rw [World.cell?_alloc_lt _ _ _ (lt_of_cell (h a v hc hB))]; exact h a v hc hB
theorem Keeps.drew {B : Nat} {w w1 : World} (h : Keeps B w w1) : Keeps B w w1.drew := h
theorem Keeps.drewN {B : Nat} {w w1 : World} (h : Keeps B w w1) (n : Nat) : Keeps B w (w1.drewN n) := h
theorem Keeps.set {B : Nat} {w w1 : World} (h : Keeps B w w1) {x : Addr} (hx : x.block < B) (u : Value) : Keeps B w (w1.setCell x u) := fun a v hc hB => by
  rw [World.cell?_setCell_other _ _ _ _ (by intro e; rw [e] at hx; omega)]; exact h a v hc hB
theorem Keeps.setNew {B : Nat} {w w1 : World} (h : Keeps B w w1) {x : Addr} (hx : w.heap.size ≤ x.block) (u : Value) : Keeps B w (w1.setCell x u) := fun a v hc hB => by
  rw [World.cell?_setCell_other _ _ _ _ (by intro e; have := lt_of_cell hc; rw [e] at hx; omega)]; exact h a v hc hB
theorem Keeps.call {B : Nat} {w w1 w2 : World} (k : Below w1.heap.size w1 w2) (h : Keeps B w w1) : Keeps B w w2 := fun a v hc hB => by
  have := h a v hc hB
  rw [k.cell (lt_of_cell this)]; exact this

end Go.Proofs.Ytfebbpihcngjoaa
