/- Part 1 of the proof of laws.FnExactAskMay. -/
import Derived.Test.YtnffoddeppimkaaProg
import Derived.WalkKit
import Derived.KernelRfl
import Derived.Lib.Hide
import Derived.WalkSpells
import Derived.WalkSmall
import Derived.Deep.QuietTactic
import Derived.BigQuiet
import Derived.StillTailTactics
import Derived.Deep.RegionHeld3
import Derived.ProofKit
import Derived.OpenShut
import Derived.Carry
import Derived.Deep.Slices
import Derived.Outline
import Derived.Maps.OwnSet
import Derived.RangeFuncNested
import Derived.RangeFuncBound
import Derived.RangeFuncCalls
import Derived.RangeFuncLeaves
import Derived.Shelf.Abstract
import Derived.Shelf.RegionOpen
import Derived.OwnWalkIn
import Derived.TacticsInMore
import Derived.LoopNIn
import Derived.LoopIn
import Derived.Deep.LoopGhost
import Derived.Laws.AppendOwnNone
import Derived.Lib.SliceRun
import Derived.Below
import Derived.Deep.Draws
import Derived.Deep.AppendLies
import Derived.Maps.AppendAt
import Derived.OwnWalk
import Derived.Laws.BytesArg
import Derived.Laws.MakeOwn
import Derived.Laws.OwnMore
import Derived.Deep.OwnRows
import Derived.Tactics
import Derived.Lib.ConvBytes
import Derived.Laws.Slices
import Derived.RowKit3
import Derived.WideLaws
import Derived.Deep.DeepCutAuto
import Derived.Deep.CutBlock
import Derived.Laws.Rows
import Derived.Lib.AppendStr
import Derived.ArgAppend
import Derived.Laws.IdiomCopy
import Derived.OrdersHeld
import Derived.Laws.BitsLemmas
import Derived.RowKit
import Derived.Test.YtnffoddeppimkaaKFnExactAskMay0
namespace Go.Proofs.Ytnffoddeppimkaa
open Go.RowKit
@[irreducible] def Stop (p : Prop) : Prop := p
theorem stop {p : Prop} (h : Stop p) : p := by unfold Stop at h; exact h
theorem goon {p : Prop} (h : p) : Stop p := by unfold Stop; exact h
theorem ret_i {k : IntKind} {a b : Int} (h : a = b) : Ending.returned (.int k a) = .returned (.int k b) := by rw [h]
theorem ret_b {a b : Bool} (h : a = b) : Ending.returned (.bool a) = .returned (.bool b) := by rw [h]
theorem bcell {W w1 : World} (hb : Below W.heap.size W w1) : (∀ b o, b < W.heap.size → w1.cell? ⟨b, o, none⟩ = W.cell? ⟨b, o, none⟩) ∧ (∀ b o, b < W.heap.size → w1.frozen? ⟨b, o, none⟩ = W.frozen? ⟨b, o, none⟩) :=
  ⟨fun b o h => hb.cell (p := ⟨b, o, none⟩) h, fun b o h => hb.frozen (p := ⟨b, o, none⟩) h⟩
theorem bl_refl (w : World) : Below w.heap.size w w := Below.refl _ _
theorem bl_alloc {w w1 : World} (h : Below w.heap.size w w1) (o : Obj) : Below w.heap.size w (w1.alloc o) := h.alloc h.size o
theorem bl_drew {w w1 : World} (h : Below w.heap.size w w1) : Below w.heap.size w w1.drew := h.drew
theorem bl_drewN {w w1 : World} (h : Below w.heap.size w w1) (n : Nat) : Below w.heap.size w (w1.drewN n) := below_drewN h n
theorem bl_set {w w1 : World} {a : Addr} (h : Below w.heap.size w w1) (ha : w.heap.size ≤ a.block) (v : Value) : Below w.heap.size w (w1.setCell a v) := h.setCell ha v
theorem bl_call {w w1 w2 : World} (k : Below w1.heap.size w1 w2) (h : Below w.heap.size w w1) : Below w.heap.size w w2 := h.trans (k.mono h.size)
def CellsL (w : World) : List (Addr × Value) → Prop
  | [] => True
  | (a, v) :: r => w.cell? a = some v ∧ CellsL w r
@[go_sem] theorem drewN_alloc' (w : World) (n : Nat) (o : Obj) : (w.drewN n).alloc o = (w.alloc o).drewN n := rfl
@[go_sem] theorem drewN_setCell' (w : World) (n : Nat) (a : Addr) (v : Value) : (w.drewN n).setCell a v = (w.setCell a v).drewN n := rfl
def Locals (w : World) : List (Addr × Value) → Prop
  | [] => True
  | (a, v) :: r => (w.cell? a = some v ∧ w.frozen? a = false) ∧ Locals w r
theorem lt_of_cell {w : World} {a : Addr} {v : Value} (h : w.cell? a = some v) : a.block < w.heap.size := by
  unfold World.cell? at h
  cases hb : w.heap[a.block]? with
  | none => rw [hb] at h; cases h
  | some o => exact (Array.getElem?_eq_some_iff.1 hb).1
theorem Locals.call {Y w1 : World} (hb : Below Y.heap.size Y w1) : ∀ {L : List (Addr × Value)}, Locals Y L → Locals w1 L
  | [], _ => trivial
  | (a, v) :: r, ⟨⟨h1, h2⟩, h3⟩ => ⟨⟨by rw [hb.cell (lt_of_cell h1)]; exact h1, by rw [hb.frozen (lt_of_cell h1)]; exact h2⟩, Locals.call hb h3⟩
theorem CellsL.call {Y w1 : World} (hb : Below Y.heap.size Y w1) : ∀ {L : List (Addr × Value)}, CellsL Y L → CellsL w1 L
  | [], _ => trivial
  | (a, v) :: r, ⟨h1, h3⟩ => ⟨by rw [hb.cell (lt_of_cell h1)]; exact h1, CellsL.call hb h3⟩
def Keeps (B : Nat) (w w' : World) : Prop := ∀ a v, w.cell? a = some v → B ≤ a.block → w'.cell? a = some v
theorem Keeps.refl (B : Nat) (w : World) : Keeps B w w := fun _ _ h _ => h
theorem Keeps.alloc {B : Nat} {w w1 : World} (h : Keeps B w w1) (o : Obj) : Keeps B w (w1.alloc o) := fun a v hc hB => by
  rw [World.cell?_alloc_lt _ _ _ (lt_of_cell (h a v hc hB))]; exact h a v hc hB
theorem Keeps.drew {B : Nat} {w w1 : World} (h : Keeps B w w1) : Keeps B w w1.drew := h
theorem Keeps.drewN {B : Nat} {w w1 : World} (h : Keeps B w w1) (n : Nat) : Keeps B w (w1.drewN n) := h
theorem Keeps.set {B : Nat} {w w1 : World} (h : Keeps B w w1) {x : Addr} (hx : x.block < B) (u : Value) : Keeps B w (w1.setCell x u) := fun a v hc hB => by
  rw [World.cell?_setCell_other _ _ _ _ (by intro e; rw [e] at hx; omega)]; exact h a v hc hB
theorem Keeps.setNew {B : Nat} {w w1 : World} (h : Keeps B w w1) {x : Addr} (hx : w.heap.size ≤ x.block) (u : Value) : Keeps B w (w1.setCell x u) := fun a v hc hB => by
  rw [World.cell?_setCell_other _ _ _ _ (by intro e; have := lt_of_cell hc; rw [e] at hx; omega)]; exact h a v hc hB
theorem Keeps.call {B : Nat} {w w1 w2 : World} (k : Below w1.heap.size w1 w2) (h : Keeps B w w1) : Keeps B w w2 := fun a v hc hB => by
  have := h a v hc hB
  rw [k.cell (lt_of_cell this)]; exact this
end Go.Proofs.Ytnffoddeppimkaa
namespace Go.Proofs.Ytnffoddeppimkaa
open Go.ChangeShapes Go.WideShapes Go.ChangeAt Go.RowKit Go.WideElems Go.Proofs.YtnffoddeppimkaaW.PrintWords
set_option linter.unusedVariables false
set_option linter.unusedSimpArgs false
section
variable {H : Type} {enc : TypeId × Value → H} {P : Program} {w : World} {base : Nat} {spare : Nat → Bool} {held : Bool}
theorem int_of {t n : Nat} {k : IntKind} {cs : List Value} {x : DataW H × List MemPlace} (ht : P.underlying t = some (.int k)) (h : DataW.trod enc P w base spare held n t cs = some x) : ∃ a, cs = [.int k a] ∧ (Lit.int k a).wf = true := by
  obtain ⟨a, e, _, hw⟩ := DataW.trod_int ht h
  exact ⟨a, e, hw⟩
theorem slice_of {α : Type} [Inhabited α] (d : Kd α) (Q : α → Prop) {t e n : Nat} {v : Value} {x : DataW H × List MemPlace} (ht : P.underlying t = some (.slice e)) (hsz : P.cellsOf e = d.sz)
    (hel : ∀ (n : Nat) (cs : List Value) (x : DataW H × List MemPlace), DataW.trod enc P w base spare held n e cs = some x → ∃ y, d.K w y cs ∧ Q y)
    (h : DataW.trod enc P w base spare held n t [v] = some x) :
    ∃ (A : Option Addr) (c : Nat) (xs : List α), v = .slice A xs.length c ∧ xs.length ≤ c ∧ xs.length ≤ 9223372036854775807 ∧ Kd.C d w A xs.length xs ∧ ∀ y ∈ xs, Q y := by
  rcases Go.Deep.open_slice ht h with ⟨e1, _⟩ | ⟨a, len, cap, m, n', D, Pl, e1, hb, hl, hm, hmm, _, hx⟩
  · injection e1 with e1
    subst e1
    exact ⟨none, 0, [], rfl, Nat.le_refl _, by simp, ⟨rfl, by simp, fun h => absurd h (Nat.lt_irrefl _)⟩, fun y hy => by cases hy⟩
  · injection e1 with e1
    subst e1
    have hlm : len ≤ m := by rw [hmm]; split <;> omega
    have hex : ∀ i, i < len → ∃ y : α, (∃ cs', cs'.length = d.sz ∧ d.K w y cs' ∧ ∀ j u, cs'[j]? = some u → w.cell? (a.add (i * d.sz + j)) = some u) ∧ Q y := fun i hi => by
      obtain ⟨cs', hc, htr⟩ := hx i (by omega)
      obtain ⟨y, hK, hQ⟩ := hel _ _ _ htr
      rw [hsz] at hc
      obtain ⟨_, hlen, hcc⟩ := World.cells?_some hc
      refine ⟨y, ⟨cs', hlen, hK, fun j u hu => ?_⟩, hQ⟩
      have hj : j < d.sz := by have := (List.getElem?_eq_some_iff.1 hu).1; omega
      have h1 := (hcc j hj).trans hu
      rw [Go.Addr.add_add] at h1
      exact h1
    obtain ⟨g, hg⟩ := Go.Deep.choose_lt hex
    have hml : len ≤ 9223372036854775807 := by
      have : cap ≤ 9223372036854775807 := by simpa [maxLen] using hm
      omega
    refine ⟨some a, cap, (List.range len).map g, by simp, by simpa using hl, by simpa using hml, ⟨by simp, by simpa using hml, fun _ => ⟨a, rfl, fun j p hp => ?_⟩⟩, fun y hy => ?_⟩
    · have hj : j < len := by have := (List.getElem?_eq_some_iff.1 hp).1; simpa using this
      have he : g j = p := by simpa [hj] using hp
      subst he
      exact (hg j hj).1
    · obtain ⟨j, hj, rfl⟩ := List.mem_map.1 hy
      exact (hg j (List.mem_range.1 hj)).2
end
end Go.Proofs.Ytnffoddeppimkaa
namespace Go.Proofs.Ytnffoddeppimkaa
open Go.RowKit Go.Proofs.YtnffoddeppimkaaW.PrintWords
set_option linter.unusedVariables false
set_option linter.unusedSimpArgs false
theorem withinH (n lo hi : Int) (w : World) :
    Calls Try.prog 53 #[.int .i64 n, .int .i64 lo, .int .i64 hi] w fun e w' => e = .returned (.bool (decide (lo ≤ n ∧ n ≤ hi))) ∧ w = w' := by
  by_cases h1 : lo ≤ n
  all_goals
    go_enter Try.func53, Try.ntmps53
    go_wp2
    go_ret
    exact ⟨by simp <;> omega, rfl⟩
def TestAt (f : FuncId) (p : Int → Bool) : Prop := ∀ (x : Int) (w : World), Calls Try.prog f #[.int .i64 x] w fun e w' => e = .returned (.bool (p x)) ∧ w = w'
theorem test_elements : TestAt 104 (fun n => !decide (0 ≤ n ∧ n ≤ 30)) := by
  intro n w
  have h2 : Calls Try.prog 105 #[.int .i64 n] w fun e w' => e = .returned (.bool (decide (0 ≤ n ∧ n ≤ 30))) ∧ w = w' := by
    go_enter Try.func105, Try.ntmps105
    go_wp2_with fail
    refine (withinH n 0 30 _).mono ?_; rintro e w1 ⟨rfl, rfl⟩
    go_wp2_with fail
    go_ret
    exact ⟨ret_b (by simp), rfl⟩
  go_enter Try.func104, Try.ntmps104
  go_wp2_with fail
  refine h2.mono ?_; rintro e w1 ⟨rfl, rfl⟩
  go_wp2_with fail
  go_ret
  exact ⟨ret_b (by simp), rfl⟩
def findI (p : Int → Bool) : List Int → Nat → Int
  | [], _ => -1
  | x :: r, i => if p x then i else findI p r (i + 1)
theorem findI_any (p : Int → Bool) : ∀ (l : List Int) (i : Nat), decide (0 ≤ findI p l i) = l.any p
  | [], _ => rfl
  | x :: r, i => by
    unfold findI
    by_cases h : p x = true
    · rw [if_pos h]; simp [h]
    · rw [if_neg h, findI_any p r (i + 1)]; simp [h]
set_option maxHeartbeats 400000 in
theorem indexFuncH {f : FuncId} {p : Int → Bool} (hp : TestAt f p) (hent : ∀ (x : Value) (w : World), (callFunc f #[x]).run Try.prog w = .ok (.enter f #[x]) w) (A : Option Addr) (c : Nat) (l : List Int) (w : World) (hr : Kd.C (Kd.int .i64) w A l.length l) :
    Calls Try.prog 106 #[.slice A l.length c, .func (.func f) #[] #[]] w fun e w' => e = .returned (.int .i64 (findI p l 0)) ∧ w = w' := by
  have hlen : (l.length : Int) ≤ 9223372036854775807 := by have := hr.2.1; omega
  have HR := Lib.hid hr
  clear hr
  have hpf : ∀ kk : Nat, findI p l 0 = findI p (l.drop kk) kk ∨ ∃ j, j < kk ∧ p (rd l j) = true := by
    intro kk
    induction kk with
    | zero => exact .inl rfl
    | succ kk ih =>
      rcases ih with ih | ⟨j, hj, h⟩
      · by_cases hlt : kk < l.length
        · by_cases hq : p (rd l kk) = true
          · exact .inr ⟨kk, by omega, hq⟩
          · left
            rw [ih, List.drop_eq_getElem_cons hlt]
            have : rd l (kk : Int) = l[kk] := by simp [rd, List.getD_eq_getElem?_getD, hlt]
            rw [this] at hq
            conv => lhs; unfold findI
            rw [if_neg hq]
        · left
          rw [ih, List.drop_eq_nil_of_le (by omega), List.drop_eq_nil_of_le (by omega)]
          rfl
      · exact .inr ⟨j, by omega, h⟩
  have Hpf := Lib.hid hpf
  have Hp := Lib.hid hp
  clear hpf hp
  go_enter Try.func106, Try.ntmps106
  go_wp2
  go_loop [8] (fun s8 => ∃ kk : Nat, kk ≤ l.length ∧ s8 = .int .i64 kk ∧ Hid (∀ j : Nat, j < kk → p (rd l j) = false)) (fun s8 => (l.length : Int).toNat - (intOf s8).toNat)
  case atStart => exact ⟨0, Nat.zero_le _, rfl, Lib.hid fun j hj => absurd hj (Nat.not_lt_zero _)⟩
  case round =>
    obtain ⟨kk, hkk, rfl, HN⟩ := hrel
    by_cases hlt : kk < l.length
    · have hltz : (kk : Int) < (l.length : Int) := by omega
      obtain ⟨ad, hA, hc⟩ := Kd.at_int HR.out kk (by omega) hltz
      subst hA
      have hcall := Hp.out (rd l kk) w
      simp only [Int.toNat_natCast] at hc
      generalize hx : rd l kk = x at hc hcall
      have Hx := Lib.hid hx
      clear hx
      cases hq : p x with
      | true =>
        have Hq := Lib.hid hq
        clear hq
        have Hcall := Lib.hid hcall
        clear hcall
        go_wp2_with fail
        refine Hcall.out.mono ?_; rintro e w' ⟨rfl, rfl⟩; rw [Hq.out]
        go_wp2_with fail
        go_ret
        refine ⟨ret_i ?_, rfl⟩
        rcases Hpf.out kk with h | ⟨j, hj, h⟩
        · rw [h, List.drop_eq_getElem_cons hlt]
          have e1 : l[kk] = x := by rw [← Hx.out]; simp [rd, List.getD_eq_getElem?_getD, hlt]
          simp [findI, e1, Hq.out]
        · have := HN.out j hj; rw [h] at this; cases this
      | false =>
        have Hq := Lib.hid hq
        clear hq
        have Hcall := Lib.hid hcall
        clear hcall
        go_wp2_with fail
        refine Hcall.out.mono ?_; rintro e w' ⟨rfl, rfl⟩; rw [Hq.out]
        go_wp2_with fail
        go_round
        case rel =>
          refine ⟨kk + 1, by omega, by go_num, Lib.hid fun j hj => ?_⟩
          by_cases e : j = kk
          · subst e; rw [Hx.out]; exact Hq.out
          · exact HN.out j (by omega)
        case measure => simp [intOf]; omega
    · have hltz : ¬ (kk : Int) < (l.length : Int) := by omega
      go_wp2
      go_ret
      refine ⟨ret_i ?_, rfl⟩
      rcases Hpf.out kk with h | ⟨j, hj, h⟩
      · rw [h, List.drop_eq_nil_of_le (by omega)]; rfl
      · have := HN.out j hj; rw [h] at this; cases this
theorem containsFuncH {f : FuncId} {p : Int → Bool} (hp : TestAt f p) (hent : ∀ (x : Value) (w : World), (callFunc f #[x]).run Try.prog w = .ok (.enter f #[x]) w) (A : Option Addr) (c : Nat) (l : List Int) (w : World) (hr : Kd.C (Kd.int .i64) w A l.length l) :
    Calls Try.prog 98 #[.slice A l.length c, .func (.func f) #[] #[]] w fun e w' => e = .returned (.bool (l.any p)) ∧ w = w' := by
  have HR := Lib.hid hr
  have Hp := Lib.hid hp
  clear hr hp
  go_enter Try.func98, Try.ntmps98
  go_wp2_with fail
  refine (indexFuncH Hp.out hent A c l _ HR.out).mono ?_; rintro e w1 ⟨rfl, rfl⟩
  have h := findI_any p l 0
  generalize findI p l 0 = x at h ⊢
  have H := Lib.hid h
  clear h
  go_wp2_with fail
  go_ret
  exact ⟨ret_b H.out, rfl⟩
def elsB (l : List Int) (most : Int) : Bool := decide ((l.length : Int) ≤ most) && l.all (fun n => decide (0 ≤ n ∧ n ≤ 30))
set_option maxHeartbeats 1000000 in
theorem elementsOkH (A : Option Addr) (c : Nat) (l : List Int) (most : Int) (w : World) (hr : Kd.C (Kd.int .i64) w A l.length l) :
    Calls Try.prog 96 #[.slice A l.length c, .int .i64 most] w fun e w' => e = .returned (.bool (elsB l most)) ∧ Drawn0 w w' := by
  have hr2 := hr.2.1
  by_cases h : (l.length : Int) ≤ most
  · have hd : decide ((l.length : Int) ≤ most) = true := decide_eq_true h
    have he : elsB l most = !(l.any (fun n => !decide (0 ≤ n ∧ n ≤ 30))) := by
      unfold elsB; rw [hd]; simp only [Bool.true_and, List.any_eq_not_all_not, Bool.not_not]
    rw [he]
    have HR := Lib.hid hr
    clear hr hd he
    have hcon := fun W (hW : Kd.C (Kd.int .i64) W A l.length l) => containsFuncH test_elements (fun x w => Try.call104 _ _) A c l W hW
    generalize (fun n : Int => !decide (0 ≤ n ∧ n ≤ 30)) = p at hcon ⊢
    have Hcon := Lib.hid hcon
    clear hcon
    go_enter Try.func96, Try.ntmps96
    go_wp2_with fail
    refine (Hcon.out _ HR.out).mono ?_; rintro e w1 ⟨rfl, rfl⟩
    go_wp2_with fail
    go_ret
    exact ⟨rfl, Drawn0.refl _⟩
  · have hd : decide ((l.length : Int) ≤ most) = false := decide_eq_false h
    have he : elsB l most = false := by unfold elsB; rw [hd]; rfl
    rw [he]
    clear he hr
    go_enter Try.func96, Try.ntmps96
    go_wp2_with fail
    go_ret
    exact ⟨rfl, Drawn0.refl _⟩
theorem idOkH (n : Int) (w : World) : Calls Try.prog 100 #[.int .i64 n] w fun e w' => e = .returned (.bool (decide (1 ≤ n ∧ n ≤ 99))) ∧ w = w' := by
  go_enter Try.func100, Try.ntmps100
  go_wp2_with fail
  refine (withinH n 1 99 _).mono ?_; rintro e w1 ⟨rfl, rfl⟩
  go_wp2_with fail
  go_ret
  exact ⟨ret_b (by simp), rfl⟩
theorem test_ids : TestAt 99 (fun n => !decide (1 ≤ n ∧ n ≤ 99)) := by
  intro n w
  go_enter Try.func99, Try.ntmps99
  go_wp2_with fail
  refine (idOkH n w).mono ?_; rintro e w1 ⟨rfl, rfl⟩
  go_wp2_with fail
  go_ret
  exact ⟨ret_b (by simp), rfl⟩
end Go.Proofs.Ytnffoddeppimkaa
namespace Go.Proofs.Ytnffoddeppimkaa
open Go.RowKit Go.MapKept Go.ChangeMaps
set_option linter.unusedVariables false
set_option linter.unusedSimpArgs false
def ek (x : Int) : Value := .int .i64 x
def AL (es : List MapEntry) (L : List (Int × Value)) : Prop := es.map (fun e => (e.key, e.val)) = L.map (fun p => (ek p.1, p.2))
def MapI (w : World) (b : Nat) (L : List (Int × Value)) : Prop := ∃ es clock, w.heap[b]? = some (.map es clock) ∧ AL es.toList L
def getL : List (Int × Value) → Int → Option Value
  | [], _ => none
  | (y, v) :: r, x => if y = x then some v else getL r x
def putL : List (Int × Value) → Int → Value → List (Int × Value)
  | [], x, v => [(x, v)]
  | (y, u) :: r, x, v => if y = x then (x, v) :: r else (y, u) :: putL r x v
theorem findNow_AL : ∀ {es : List MapEntry} {L : List (Int × Value)} (x : Int) (i : Nat), AL es L →
    (getL L x = none ∧ Instr.findNow (.int .i64) (ek x) es i = some none ∧ ∀ v, putL L x v = L ++ [(x, v)]) ∨
    ∃ j u, getL L x = some u ∧ Instr.findNow (.int .i64) (ek x) es i = some (some (i + j, u)) ∧ (es[j]?).map (·.key) = some (ek x) ∧ j < es.length ∧
      ∀ v, putL L x v = L.set j (x, v)
  | [], [], x, i, _ => .inl ⟨rfl, rfl, fun v => rfl⟩
  | [], _ :: _, x, i, h => by simp [AL] at h
  | _ :: _, [], x, i, h => by simp [AL] at h
  | e :: es, (y, u) :: L, x, i, h => by
    simp only [AL, List.map_cons, List.cons.injEq, Prod.mk.injEq] at h
    obtain ⟨⟨hk, hv⟩, hr⟩ := h
    have hs : Instr.sameNow (.int .i64) (ek x) e.key = some (decide (y = x)) := by
      rw [hk]; unfold ek
      show (if IntKind.i64 = IntKind.i64 then some (x == y) else none) = _
      rw [if_pos rfl]
      congr 1
      by_cases hq : y = x
      · subst hq; simp
      · have hq2 : (x == y) = false := beq_false_of_ne (fun e => hq e.symm)
        rw [hq2, decide_eq_false hq]
    by_cases hyx : y = x
    · subst hyx
      refine .inr ⟨0, u, by simp [getL], ?_, by simp [hk], by simp, fun v => by simp [putL]⟩
      unfold Instr.findNow
      rw [hs]
      simp [hv]
    · rcases findNow_AL x (i + 1) (show AL es L from hr) with ⟨h1, h2, h3⟩ | ⟨j, u', h1, h2, h3, h4, h5⟩
      · refine .inl ⟨by simp [getL, hyx, h1], ?_, fun v => by simp [putL, hyx, h3]⟩
        unfold Instr.findNow
        rw [hs]
        simp [hyx, h2]
      · refine .inr ⟨j + 1, u', by simp [getL, hyx, h1], ?_, by simpa using h3, by simp; omega, fun v => by simp [putL, hyx, h5]⟩
        unfold Instr.findNow
        rw [hs]
        simp [hyx, h2]
        omega
section
variable {P : Program} {w : World} {b : Nat} {L : List (Int × Value)} {t k e : TypeId}
theorem MapI.lt (h : MapI w b L) : b < w.heap.size := by
  obtain ⟨es, clock, hb, _⟩ := h
  exact (Array.getElem?_eq_some_iff.1 hb).1
theorem MapI.kept {w' : World} {row : Option Nat} (h : MapI w b L) (hg : w.grownBy w' row) (hne : some b ≠ row) : MapI w' b L := by
  have hlt := h.lt
  obtain ⟨es, clock, hb, hL⟩ := h
  exact ⟨es, clock, (hg.block b hlt hne).trans hb, hL⟩
theorem MapI.below {w' : World} (h : MapI w b L) (hg : Below w.heap.size w w') : MapI w' b L := by
  have hlt := h.lt
  obtain ⟨es, clock, hb, hL⟩ := h
  exact ⟨es, clock, (hg.block b hlt).trans hb, hL⟩
theorem MapI.alloc (h : MapI w b L) (o : Obj) : MapI (w.alloc o) b L := h.kept (World.grownBy_alloc w o none) (by simp)
theorem MapI.drew (h : MapI w b L) : MapI w.drew b L := h
theorem MapI.made (w : World) : MapI (w.alloc (.map #[] 0)) w.heap.size [] := ⟨#[], 0, (MapKept.heap_alloc w _).1, rfl⟩
theorem MapI.setCell (h : MapI w b L) (a : Addr) (v : Value) : MapI (w.setCell a v) b L := by
  obtain ⟨es, clock, hb, hL⟩ := h
  refine ⟨es, clock, ?_, hL⟩
  by_cases hab : a.block = b
  · subst hab
    simp [World.setCell, Array.getElem?_modify, hb]
  · simp [World.setCell, Array.getElem?_modify, hab, hb]
theorem AL.push {es : Array MapEntry} (h : AL es.toList L) (x : Int) (v : Value) (c : Nat) : AL (es.push { key := ek x, val := v, born := c }).toList (L ++ [(x, v)]) := by
  simp only [AL, Array.toList_push, List.map_append, List.map_cons, List.map_nil]
  rw [show List.map (fun e => (e.key, e.val)) es.toList = _ from h]
theorem AL.put {es : Array MapEntry} (h : AL es.toList L) (j : Nat) (hj : j < es.toList.length) (x : Int) (v : Value) : AL (es.modify j fun e => { e with key := ek x, val := v }).toList (L.set j (x, v)) := by
  have hlen : es.toList.length = L.length := by have := congrArg List.length h; simpa using this
  apply List.ext_getElem?
  intro i
  have h' : ∀ i : Nat, (es.toList.map (fun e => (e.key, e.val)))[i]? = (L.map (fun p => (ek p.1, p.2)))[i]? := fun i => by rw [show List.map (fun e => (e.key, e.val)) es.toList = _ from h]
  have hi := h' i
  simp only [List.getElem?_map] at hi ⊢
  rw [List.getElem?_set]
  by_cases hij : j = i
  · subst hij
    have hj1 : j < es.size := by simpa using hj
    have hj2 : j < L.length := by omega
    simp [Array.getElem?_modify, hj1, hj2]
  · simpa [Array.getElem?_modify, hij] using hi
theorem MapI.update (h : MapI w b L) (ht : P.underlying t = some (.map k e)) (hk : P.underlying k = some (.int .i64)) (x : Int) (v : Value) :
    ∃ w', (Instr.mapUpdate t (.map (some b)) (.int .i64 x) v).run P w = .ok () w' ∧ MapI w' b (putL L x v) ∧ w.grownBy w' (some b) := by
  obtain ⟨es, clock, hb, hL⟩ := h
  have hck := run_checkKey (w := w) hk (show IsKey (.int .i64) (.int .i64 x) from rfl) false 9999
  have hlt : b < w.heap.size := (Array.getElem?_eq_some_iff.1 hb).1
  have grown : ∀ o, w.grownBy { w with heap := w.heap.setIfInBounds b o } (some b) := fun o => ⟨rfl, rfl, rfl, by simp, fun i _ hi => by simp [Array.getElem?_setIfInBounds, show ¬ b = i from fun q => hi (by rw [q])]⟩
  unfold Instr.mapUpdate
  rcases findNow_AL x 0 hL with ⟨h1, h2, h3⟩ | ⟨j, u, h1, h2, h4, h5, h3⟩
  · have hf := run_findKey (w := w) hk h2
    unfold ek at hf
    refine ⟨_, by simp [run_underlying ht, Result.andThen, MapKept.run_getObj_map hb, hck, hf, MapKept.run_setObj_map _ hb]; rfl, ?_, grown _⟩
    refine ⟨es.push { key := .int .i64 x, val := v, born := clock }, clock + 1, by simp [hlt], ?_⟩
    rw [h3]
    exact hL.push x v clock
  · have hf := run_findKey (w := w) hk h2
    unfold ek at hf h4
    have h4' : (Option.map (fun x => x.key) es[j]?).getD (Value.int IntKind.i64 x) = Value.int IntKind.i64 x := by
      rw [show es[j]? = es.toList[j]? by simp, h4]; rfl
    have hst : ∀ w : World, (Instr.keyThatStays (.int .i64 x) (.int .i64 x)).run P w = .ok (.int .i64 x) w := fun w => by
      unfold Instr.keyThatStays
      rw [if_pos (by simp [Instr.sameBits])]
      rfl
    refine ⟨_, by simp [run_underlying ht, Result.andThen, MapKept.run_getObj_map hb, hck, hf, h4', hst, MapKept.run_setObj_map _ hb]; rfl, ?_, grown _⟩
    refine ⟨es.modify j (fun e => { e with key := .int .i64 x, val := v }), clock, by simp [hlt], ?_⟩
    rw [h3]
    exact hL.put j h5 x v
theorem MapI.len (h : MapI w b L) (ht : P.underlying t = some (.map k e)) (ty : TypeId) : (Builtin.len_ #[t] ty #[.map (some b)]).run P w = .ok (.int .i64 L.length) w := by
  obtain ⟨es, clock, hb, hL⟩ := h
  have hlen : es.size = L.length := by have := congrArg List.length hL; simpa using this
  simp [Builtin.len_, run_underlying ht, MapKept.run_getObj_map hb, goInt, Result.andThen, hlen]
end
section
variable {P : Program} {w : World} {ops : Array Oper} {rest : List Oper} {o : Oper} {a : Act} {Q : Exit → Act → World → Prop}
theorem wpList_mapUpdate_L (hg : o.guard = none) (m x v : Operand) (t : TypeId) (hop : o.op = Op.mapUpdate t m x v) (k e : TypeId) (ht : P.underlying t = some (.map k e)) (hk : P.underlying k = some (.int .i64))
    (b : Nat) (L : List (Int × Value)) (hm : a.eval m = .map (some b)) (hown : MapI w b L) (key : Int) (val : Value) (hx : a.eval x = .int .i64 key) (hv : a.eval v = val)
    (hK : ∀ w', MapI w' b (putL L key val) → w.grownBy w' (some b) → wpList P ops Q rest (a.put o.dst undef) w') :
    wpList P ops Q (o :: rest) a w := by
  refine wpList_plain hg fun K' hK' => ?_
  obtain ⟨w', hrun, r1, r2⟩ := hown.update ht hk key val
  unfold Oper.wp
  simp [execOp, hop, hm, hx, hv, hrun, Result.andThen]
  exact hK' _ _ (hK w' r1 r2)
theorem wpList_len_L (hg : o.guard = none) (m : Operand) (t : TypeId) (hop : o.op = Op.call { callee := Callee.builtin Builtin.len, args := #[m], argTypes := #[t] }) (k e : TypeId) (ht : P.underlying t = some (.map k e))
    (b : Nat) (L : List (Int × Value)) (hm : a.eval m = .map (some b)) (hown : MapI w b L) (hK : wpList P ops Q rest (a.put o.dst (.int .i64 L.length)) w) :
    wpList P ops Q (o :: rest) a w := by
  refine wpList_plain hg fun K' hK' => ?_
  unfold Oper.wp
  simp [execOp, hop, resolve, invoke, builtin, hm, hown.len ht o.type, Result.andThen]
  exact hK' _ _ hK
end
end Go.Proofs.Ytnffoddeppimkaa
namespace Go.Proofs.Ytnffoddeppimkaa
open Go.RowKit Go.Proofs.YtnffoddeppimkaaW.PrintWords
set_option linter.unusedVariables false
set_option linter.unusedSimpArgs false
theorem revInd {α : Type} {p : List α → Prop} (h0 : p []) (h1 : ∀ l x, p l → p (l ++ [x])) (l : List α) : p l := by
  have : ∀ r : List α, p r.reverse := fun r => by
    induction r with
    | nil => exact h0
    | cons x r ih => rw [List.reverse_cons]; exact h1 _ _ ih
  simpa using this l.reverse
def grp (l : List Int) : List (Int × Value) := l.foldl (fun L x => putL L x (.bool true)) []
theorem grp_snoc (l : List Int) (x : Int) : grp (l ++ [x]) = putL (grp l) x (.bool true) := by simp [grp, List.foldl_append]
theorem putL_len (L : List (Int × Value)) (x : Int) (v : Value) : (putL L x v).length ≤ L.length + 1 ∧ ((putL L x v).length = L.length + 1 ↔ x ∉ L.map (·.1)) := by
  induction L with
  | nil => simp [putL]
  | cons p r ih =>
    obtain ⟨y, u⟩ := p
    unfold putL
    by_cases h : y = x
    · rw [if_pos h]; simp [h]
    · rw [if_neg h]
      simp only [List.length_cons, List.map_cons, List.mem_cons, not_or]
      refine ⟨by have := ih.1; omega, ?_⟩
      rw [Nat.add_right_cancel_iff, ih.2]
      exact ⟨fun q => ⟨fun e => h e.symm, q⟩, fun q => q.2⟩
theorem putL_keys (L : List (Int × Value)) (x : Int) (v : Value) (k : Int) : k ∈ (putL L x v).map (·.1) ↔ k = x ∨ k ∈ L.map (·.1) := by
  induction L with
  | nil => simp [putL]
  | cons p r ih =>
    obtain ⟨y, u⟩ := p
    unfold putL
    by_cases h : y = x
    · rw [if_pos h]; subst h; simp
    · rw [if_neg h]
      simp only [List.map_cons, List.mem_cons, ih]
      constructor
      · rintro (rfl | rfl | q)
        · exact .inr (.inl rfl)
        · exact .inl rfl
        · exact .inr (.inr q)
      · rintro (rfl | rfl | q)
        · exact .inr (.inl rfl)
        · exact .inl rfl
        · exact .inr (.inr q)
theorem mem_grp (l : List Int) (k : Int) : k ∈ (grp l).map (·.1) ↔ k ∈ l := by
  refine revInd (p := fun l => k ∈ (grp l).map (·.1) ↔ k ∈ l) (by simp [grp]) (fun l x ih => ?_) l
  rw [grp_snoc, putL_keys, ih]; simp [or_comm]
theorem grp_len (l : List Int) : (grp l).length ≤ l.length ∧ ((grp l).length = l.length ↔ l.Nodup) := by
  refine revInd (p := fun l => (grp l).length ≤ l.length ∧ ((grp l).length = l.length ↔ l.Nodup)) (by simp [grp]) (fun l x ih => ?_) l
  · rw [grp_snoc]
    obtain ⟨h1, h2⟩ := putL_len (grp l) x (.bool true)
    rw [mem_grp] at h2
    simp only [List.length_append, List.length_cons, List.length_nil, List.nodup_append, List.nodup_cons, List.not_mem_nil, not_false_eq_true, List.nodup_nil, and_true, List.mem_cons, or_false, true_and]
    refine ⟨by omega, ?_⟩
    constructor
    · intro h
      have e1 : (grp l).length = l.length := by omega
      refine ⟨ih.2.1 e1, ?_⟩
      rintro a ha b rfl rfl
      exact (h2.1 (by omega)) ha
    · rintro ⟨h3, h4⟩
      have e1 := ih.2.2 h3
      have := h2.2 (fun hm => h4 x hm x rfl rfl)
      omega
theorem take_snoc' {α : Type} (l : List α) (k : Nat) (h : k < l.length) : l.take (k + 1) = l.take k ++ [l[k]] := List.take_succ_eq_append_getElem h
set_option maxHeartbeats 1000000 in
theorem groupOfH (A : Option Addr) (c : Nat) (l : List Int) (w : World) (hr : Kd.C (Kd.int .i64) w A l.length l) :
    Calls Try.prog 97 #[.slice A l.length c] w fun e w' => e = .returned (.tuple #[.map (some w.heap.size), .bool (((grp l).length : Int) == l.length)]) ∧ MapI w' w.heap.size (grp l) ∧ Below w.heap.size w w' := by
  have hlen : (l.length : Int) ≤ 9223372036854775807 := by have := hr.2.1; omega
  have hmm := @run_makeMap Try.prog
  have HR := Lib.hid hr
  clear hr
  go_enter Try.func97, Try.ntmps97
  go_wp2
  go_loopw [6, 10] (fun s6 s10 wr => ∃ kk : Nat, kk ≤ l.length ∧ s10 = .int .i64 kk ∧ Hid (MapI wr w.heap.size (grp (l.take kk))) ∧ Hid (Below w.heap.size w wr)) (fun _ s10 _ => l.length - (intOf s10).toNat)
  case atStart => exact ⟨0, Nat.zero_le _, rfl, Lib.hid (MapI.made w), Lib.hid ((Below.refl _ _).alloc (Nat.le_refl _) _)⟩
  case round =>
    obtain ⟨kk, hkk, rfl, HM, HB⟩ := hrel
    by_cases hlt : kk < l.length
    · have hltz : (kk : Int) < (l.length : Int) := by omega
      obtain ⟨ad, hA, hc⟩ := Kd.at_int (Kd.C_below HR.out HB.out) kk (by omega) hltz
      subst hA
      simp only [Int.toNat_natCast] at hc
      have hx : rd l kk = l[kk] := by simp [rd, List.getD_eq_getElem?_getD, hlt]
      rw [hx] at hc
      have hts := grp_snoc (l.take kk) l[kk]
      rw [← take_snoc' l kk hlt] at hts
      generalize l[kk] = x at hc hts
      have Hts := Lib.hid hts
      clear hts hx
      go_wp2_with (at_mapUpdate; refine wpList_mapUpdate_L rfl _ _ _ 126 rfl 3 4 Try.underlying126 Try.underlying3 w.heap.size _ rfl HM.out x _ rfl rfl ?_; intro w1 hm1 hg1; have HM1 := Lib.hid hm1; have HG1 := Lib.hid hg1; clear hm1 hg1)
      go_roundw
      case rel => exact ⟨kk + 1, by omega, by go_num, Lib.hid (by rw [Hts.out]; exact HM1.out), Lib.hid (HB.out.grown HG1.out HB.out.size (fun j hj => by cases hj; exact Nat.le_refl _))⟩
      case measure => simp [intOf]; omega
    · have hltz : ¬ (kk : Int) < (l.length : Int) := by omega
      have hkl : kk = l.length := by omega
      subst hkl
      have hM := HM.out
      rw [List.take_length] at hM
      have HM2 := Lib.hid hM
      clear hM HM
      go_wp2_with (at_len; refine wpList_len_L rfl _ 126 rfl 3 4 Try.underlying126 w.heap.size _ rfl HM2.out ?_)
      go_ret2
      exact ⟨rfl, HM2.out, HB.out⟩
def idsB (l : List Int) (most : Int) : Bool := decide l.Nodup && decide ((l.length : Int) ≤ most) && l.all (fun n => decide (1 ≤ n ∧ n ≤ 99))
set_option maxHeartbeats 1000000 in
theorem idsOkH (A : Option Addr) (c : Nat) (l : List Int) (most : Int) (w : World) (hr : Kd.C (Kd.int .i64) w A l.length l) :
    Calls Try.prog 90 #[.slice A l.length c, .int .i64 most] w fun e w' => e = .returned (.bool (idsB l most)) ∧ Below w.heap.size w w' := by
  have hnd : ((((grp l).length : Int) == l.length)) = decide l.Nodup := by
    rw [Bool.eq_iff_iff, beq_iff_eq, decide_eq_true_iff, ← (grp_len l).2]; omega
  have hcon := fun W (hW : Kd.C (Kd.int .i64) W A l.length l) => containsFuncH test_ids (fun x w => Try.call99 _ _) A c l W hW
  have hb : idsB l most = (decide l.Nodup && decide ((l.length : Int) ≤ most) && !(l.any (fun n => !decide (1 ≤ n ∧ n ≤ 99)))) := by
    unfold idsB; congr 1
    simp only [List.any_eq_not_all_not, Bool.not_not]
  have hgrp := groupOfH A c l w hr
  rw [hnd] at hgrp
  rw [hb]
  generalize l.any (fun n : Int => !decide (1 ≤ n ∧ n ≤ 99)) = q at hcon ⊢
  have HR := Lib.hid hr
  have Hcon := Lib.hid hcon
  have Hgrp := Lib.hid hgrp
  clear hr hcon hgrp hb hnd
  cases h1 : decide l.Nodup
  · have H1 := Lib.hid h1
    clear h1
    go_enter Try.func90, Try.ntmps90
    go_wp2_with fail
    refine Hgrp.out.mono ?_; rintro e w1 ⟨rfl, hm, hb1⟩; rw [H1.out]; clear hm
    go_wp2_with fail
    go_ret
    exact ⟨ret_b (by simp), hb1⟩
  · have H1 := Lib.hid h1
    clear h1
    by_cases h2 : (l.length : Int) ≤ most
    · have hd : decide ((l.length : Int) ≤ most) = true := decide_eq_true h2
      go_enter Try.func90, Try.ntmps90
      go_wp2_with fail
      refine Hgrp.out.mono ?_; rintro e w1 ⟨rfl, hm, hb1⟩; rw [H1.out]; clear hm
      have HB1 := Lib.hid hb1
      clear hb1
      go_wp2_with fail
      refine (Hcon.out _ (Kd.C_below HR.out HB1.out)).mono ?_; rintro e w2 ⟨rfl, rfl⟩
      go_wp2_with fail
      go_ret
      exact ⟨ret_b (by simp [h2]), HB1.out⟩
    · have hd : decide ((l.length : Int) ≤ most) = false := decide_eq_false h2
      go_enter Try.func90, Try.ntmps90
      go_wp2_with fail
      refine Hgrp.out.mono ?_; rintro e w1 ⟨rfl, hm, hb1⟩; rw [H1.out]; clear hm
      have HB1 := Lib.hid hb1
      clear hb1
      go_wp2_with fail
      go_ret
      exact ⟨ret_b (by simp; omega), HB1.out⟩
end Go.Proofs.Ytnffoddeppimkaa
namespace Go.Proofs.Ytnffoddeppimkaa
open Go.RowKit
set_option linter.unusedVariables false
set_option linter.unusedSimpArgs false
def kindB (k : Int) : Bool := decide (1 ≤ k ∧ k ≤ 3)
def lenOf (k : Int) : Int := if k = 1 then 1 else if k = 2 then 4 else if k = 3 then 3 else 0
def vecB (k : Int) (l : List Int) : Bool := kindB k && (l.all (fun n => decide (0 ≤ n ∧ n ≤ 30)) && decide ((l.length : Int) ≤ 20)) && decide ((l.length : Int) = lenOf k)
def meas (k : Int) : Value := if k = 1 then .iface 122 (.agg #[]) else if k = 2 then .iface 123 (.agg #[]) else if k = 3 then .iface 124 (.agg #[]) else .nilIface
set_option maxRecDepth 20000 in
theorem measureOf_c (k : Int) (w : World) : Calls Try.prog 84 #[.int .i64 k] w fun e w' => e = .returned (meas k) ∧ w' = w := by
  by_cases h1 : k = 1
  · subst h1
    go_enter Try.func84, Try.ntmps84
    go_wp2
    go_ret
    exact ⟨rfl, rfl⟩
  by_cases h2 : k = 2
  · subst h2
    go_enter Try.func84, Try.ntmps84
    go_wp2
    go_ret
    exact ⟨rfl, rfl⟩
  by_cases h3 : k = 3
  · subst h3
    go_enter Try.func84, Try.ntmps84
    go_wp2
    go_ret
    exact ⟨rfl, rfl⟩
  have hr : meas k = .nilIface := by simp [meas, h1, h2, h3]
  rw [hr]
  clear hr
  go_enter Try.func84, Try.ntmps84
  go_wp2
  go_ret
  exact ⟨rfl, rfl⟩
theorem run_method {P : Program} {t : TypeId} {fs : Array Field} {name : String} {f : FuncId} (hu : P.underlying t = some (.struct fs))
    (hi : (P.info? t).map (fun i => (i.methods.find? (·.name == name)).map fun m => (m.path.toList, m.func)) = some (some ([], some (f, false)))) (k : Nat) (v : Value) (w : World) :
    (method (k + 1) t v name).run P w = .ok (f, v) w := by
  obtain ⟨i, e1, e2⟩ := Option.map_eq_some_iff.1 hi
  obtain ⟨m, e3, e4⟩ := Option.map_eq_some_iff.1 e2
  injection e4 with e4 e5
  simp [method, typeInfo, e1, e3, e4, e5, follow, receiverAt, run_underlying hu, Place.get]
theorem sizeBit (w : World) : (method 259 122 (.agg #[]) "loop.example/scrutineer/impl.size").run Try.prog w = .ok (130, .agg #[]) w :=
  run_method (k := 258) Try.underlying122 (by kernel_rfl) _ _
theorem sizePick (w : World) : (method 259 123 (.agg #[]) "loop.example/scrutineer/impl.size").run Try.prog w = .ok (133, .agg #[]) w :=
  run_method (k := 258) Try.underlying123 (by kernel_rfl) _ _
theorem sizeNum (w : World) : (method 259 124 (.agg #[]) "loop.example/scrutineer/impl.size").run Try.prog w = .ok (136, .agg #[]) w :=
  run_method (k := 258) Try.underlying124 (by kernel_rfl) _ _
set_option maxRecDepth 20000 in
theorem iTypeLen_c (k : Int) (w : World) : Calls Try.prog 75 #[.int .i64 k] w fun e w' => e = .returned (.int .i64 (lenOf k)) ∧ Below w.heap.size w w' := by
  by_cases h1 : k = 1
  · subst h1
    have hmeth := sizeBit
    go_enter Try.func75, Try.ntmps75
    go_wp2_with fail
    refine (measureOf_c 1 _).mono ?_; rintro e w1 ⟨rfl, rfl⟩
    have hm : meas 1 = .iface 122 (.agg #[]) := rfl
    rw [hm]; clear hm
    go_wp2
    go_ret
    exact ⟨rfl, (by repeat' (first | with_reducible exact bl_refl _ | with_reducible apply bl_alloc | with_reducible apply bl_drewN | with_reducible apply bl_drew | with_reducible apply bl_set | with_reducible refine bl_call (by assumption) ?_ | (simp; done) | (simp; omega) | omega))⟩
  by_cases h2 : k = 2
  · subst h2
    have hmeth := sizePick
    go_enter Try.func75, Try.ntmps75
    go_wp2_with fail
    refine (measureOf_c 2 _).mono ?_; rintro e w1 ⟨rfl, rfl⟩
    have hm : meas 2 = .iface 123 (.agg #[]) := rfl
    rw [hm]; clear hm
    go_wp2
    go_ret
    exact ⟨rfl, (by repeat' (first | with_reducible exact bl_refl _ | with_reducible apply bl_alloc | with_reducible apply bl_drewN | with_reducible apply bl_drew | with_reducible apply bl_set | with_reducible refine bl_call (by assumption) ?_ | (simp; done) | (simp; omega) | omega))⟩
  by_cases h3 : k = 3
  · subst h3
    have hmeth := sizeNum
    go_enter Try.func75, Try.ntmps75
    go_wp2_with fail
    refine (measureOf_c 3 _).mono ?_; rintro e w1 ⟨rfl, rfl⟩
    have hm : meas 3 = .iface 124 (.agg #[]) := rfl
    rw [hm]; clear hm
    go_wp2
    go_ret
    exact ⟨rfl, (by repeat' (first | with_reducible exact bl_refl _ | with_reducible apply bl_alloc | with_reducible apply bl_drewN | with_reducible apply bl_drew | with_reducible apply bl_set | with_reducible refine bl_call (by assumption) ?_ | (simp; done) | (simp; omega) | omega))⟩
  have hr : lenOf k = 0 := by simp [lenOf, h1, h2, h3]
  have hm : meas k = .nilIface := by simp [meas, h1, h2, h3]
  rw [hr]
  have Hm := Lib.hid hm
  clear hr hm
  go_enter Try.func75, Try.ntmps75
  go_wp2_with fail
  refine (measureOf_c k _).mono ?_; rintro e w1 ⟨rfl, rfl⟩
  rw [Hm.out]
  go_wp2
  go_ret
  exact ⟨rfl, (by repeat' (first | with_reducible exact bl_refl _ | with_reducible apply bl_alloc | with_reducible apply bl_drewN | with_reducible apply bl_drew | with_reducible apply bl_set | with_reducible refine bl_call (by assumption) ?_ | (simp; done) | (simp; omega) | omega))⟩
theorem iKindOk_c (k : Int) (w : World) : Calls Try.prog 74 #[.int .i64 k] w fun e w' => e = .returned (.bool (kindB k)) ∧ Below w.heap.size w w' := by
  by_cases h : 1 ≤ k ∧ k ≤ 3
  · have hr : kindB k = true := by simp [kindB, h]
    obtain ⟨u, hu⟩ : ∃ t, meas k = .iface t (.agg #[]) := by
      have : k = 1 ∨ k = 2 ∨ k = 3 := by omega
      rcases this with rfl | rfl | rfl
      · exact ⟨_, rfl⟩
      · exact ⟨_, rfl⟩
      · exact ⟨_, rfl⟩
    rw [hr]
    have Hu := Lib.hid hu
    clear hr hu
    go_enter Try.func74, Try.ntmps74
    go_wp2_with fail
    refine (measureOf_c k _).mono ?_; rintro e w1 ⟨rfl, rfl⟩
    rw [Hu.out]
    go_wp2
    go_ret
    exact ⟨rfl, (by repeat' (first | with_reducible exact bl_refl _ | with_reducible apply bl_alloc | with_reducible apply bl_drewN | with_reducible apply bl_drew | with_reducible apply bl_set | with_reducible refine bl_call (by assumption) ?_ | (simp; done) | (simp; omega) | omega))⟩
  · have hr : kindB k = false := by simp [kindB]; omega
    have hm : meas k = .nilIface := by unfold meas; rw [if_neg (by omega), if_neg (by omega), if_neg (by omega)]
    rw [hr]
    have Hm := Lib.hid hm
    clear hr hm
    go_enter Try.func74, Try.ntmps74
    go_wp2_with fail
    refine (measureOf_c k _).mono ?_; rintro e w1 ⟨rfl, rfl⟩
    rw [Hm.out]
    go_wp2
    go_ret
    exact ⟨rfl, (by repeat' (first | with_reducible exact bl_refl _ | with_reducible apply bl_alloc | with_reducible apply bl_drewN | with_reducible apply bl_drew | with_reducible apply bl_set | with_reducible refine bl_call (by assumption) ?_ | (simp; done) | (simp; omega) | omega))⟩
end Go.Proofs.Ytnffoddeppimkaa
namespace Go.Proofs.Ytnffoddeppimkaa
open Go.RowKit
set_option linter.unusedVariables false
theorem l6In_c (n lo hi : Int) (w : World) :
    Calls Try.prog 49 #[.int .i64 n, .int .i64 lo, .int .i64 hi] w fun e w' => e = .returned (.bool (decide (lo ≤ n ∧ n ≤ hi))) ∧ w = w' := by
  by_cases h1 : lo ≤ n
  all_goals
    go_enter Try.func49, Try.ntmps49
    go_wp2
    go_ret
    exact ⟨by simp <;> omega, rfl⟩
theorem within_c (n lo hi : Int) (w : World) :
    Calls Try.prog 53 #[.int .i64 n, .int .i64 lo, .int .i64 hi] w fun e w' => e = .returned (.bool (decide (lo ≤ n ∧ n ≤ hi))) ∧ w = w' := by
  by_cases h1 : lo ≤ n
  all_goals
    go_enter Try.func53, Try.ntmps53
    go_wp2
    go_ret
    exact ⟨by simp <;> omega, rfl⟩
def gcdI (a b : Int) : Int := (Nat.gcd a.toNat b.toNat : Nat)
theorem gcdI_step (a b : Int) (ha : 0 ≤ a) (hb : 0 < b) : gcdI b (a % b) = gcdI a b := by
  unfold gcdI
  have h1 : (a % b).toNat = a.toNat % b.toNat := by
    rw [Int.toNat_emod ha (by omega)]
  rw [h1]
  rw [Nat.gcd_comm a.toNat, Nat.gcd_rec b.toNat a.toNat, Nat.gcd_comm]
theorem gcdI_zero (a : Int) (ha : 0 ≤ a) : gcdI a 0 = a := by
  unfold gcdI; simp; omega
theorem l31Gcd_c (a b : Int) (w : World) (ha : 0 ≤ a) (hb : 0 ≤ b) (ha' : a ≤ 100000000) (hb' : b ≤ 100000000) :
    Calls Try.prog 50 #[.int .i64 a, .int .i64 b] w fun e w' => e = .returned (.int .i64 (gcdI a b)) ∧ w = w' := by
  go_enter Try.func50, Try.ntmps50
  go_wp2
  go_loop [0, 1, 5] (fun x y _ => ∃ x' y' : Int, 0 ≤ x' ∧ 0 ≤ y' ∧ x' ≤ 100000000 ∧ y' ≤ 100000000 ∧ x = .int .i64 x' ∧ y = .int .i64 y' ∧ gcdI x' y' = gcdI a b) (fun _ y _ => (intOf y).toNat)
  case atStart => exact ⟨a, b, ha, hb, ha', hb', rfl, rfl, rfl⟩
  case round =>
    obtain ⟨x, y, hx, hy, hx', hy', rfl, rfl, hg⟩ := hrel
    have Hg := Lib.hid hg
    clear hg
    by_cases hpos : 0 < y
    · have hm1 : 0 ≤ x % y := Int.emod_nonneg _ (by omega)
      have hm2 : x % y < y := Int.emod_lt_of_pos _ hpos
      go_wp2
      go_round
      case rel => exact ⟨y, x % y, by omega, by omega, by omega, by omega, rfl, rfl, by rw [gcdI_step _ _ hx hpos]; exact Hg.out⟩
      case measure => simp [intOf]; omega
    · obtain rfl : y = 0 := by omega
      go_wp2
      go_ret
      exact ⟨ret_i (by rw [← Hg.out, gcdI_zero _ hx]), rfl⟩
theorem divisor_c (a b : Int) (w : World) (ha : 0 ≤ a) (hb : 0 ≤ b) (ha' : a ≤ 100000000) (hb' : b ≤ 100000000) :
    Calls Try.prog 54 #[.int .i64 a, .int .i64 b] w fun e w' => e = .returned (.int .i64 (gcdI a b)) ∧ ∃ n, w' = w.drewN n := by
  go_enter Try.func54, Try.ntmps54
  go_wp2
  go_loopw [0, 1] (fun x y wr => ∃ x' y' : Int, 0 ≤ x' ∧ 0 ≤ y' ∧ x' ≤ 100000000 ∧ y' ≤ 100000000 ∧ x = .int .i64 x' ∧ y = .int .i64 y' ∧ gcdI x' y' = gcdI a b ∧ ∃ n, wr = w.drewN n) (fun _ y _ => (intOf y).toNat)
  case atStart => exact ⟨a, b, ha, hb, ha', hb', rfl, rfl, rfl, 0, by simp [World.drewN]⟩
  case round =>
    obtain ⟨x, y, hx, hy, hx', hy', rfl, rfl, hg, n, hn⟩ := hrel
    have Hg := Lib.hid hg
    have Hn := Lib.hid hn
    clear hg hn
    by_cases hpos : 0 < y
    · have hm1 : 0 ≤ x % y := Int.emod_nonneg _ (by omega)
      have hm2 : x % y < y := Int.emod_lt_of_pos _ hpos
      go_wp2
      go_quiet (fail)
      go_roundw
      case rel => exact ⟨_, _, _, _, _, _, _, _, ⟨y, x % y, by omega, by omega, by omega, by omega, rfl, rfl, by rw [gcdI_step _ _ hx hpos]; exact Hg.out, n + nq, by rw [Hn.out, World.drewN_drewN]⟩, rfl⟩
      case measure => simp [intOf]; omega
    · obtain rfl : y = 0 := by omega
      go_wp2
      go_ret
      exact ⟨ret_i (by rw [← Hg.out, gcdI_zero _ hx]), n, Hn.out⟩
def fracOkB (n d : Int) : Bool := decide (0 ≤ n ∧ n ≤ 999) && decide (1 ≤ d ∧ d ≤ 60) && (gcdI n d == 1)
theorem fracOkB_eq (n d : Int) : fracOkB n d = (decide (0 ≤ n ∧ n ≤ 999) && decide (1 ≤ d ∧ d ≤ 60) && (gcdI n d == 1)) := rfl
theorem sFracOk_c (n d : Int) (w : World) :
    Calls Try.prog 21 #[.agg #[.int .i64 n, .int .i64 d]] w fun e w' => e = .returned (.bool (fracOkB n d)) ∧ Below w.heap.size w w' := by
  by_cases h1 : 0 ≤ n ∧ n ≤ 999
  · obtain ⟨h1a, h1b⟩ := h1
    by_cases h2 : 1 ≤ d ∧ d ≤ 60
    · obtain ⟨h2a, h2b⟩ := h2
      go_enter Try.func21, Try.ntmps21
      go_wp2_with (first | (go_at_call 49; refine (l6In_c _ _ _ _).mono ?_; rintro e w' ⟨rfl, rfl⟩) | (go_at_call 50; refine (l31Gcd_c _ _ _ (by omega) (by omega) (by omega) (by omega)).mono ?_; rintro e w' ⟨rfl, rfl⟩))
      go_ret
      exact ⟨ret_b (by simp [fracOkB_eq, h1a, h1b, h2a, h2b]), (Below.refl _ _).alloc (Nat.le_refl _) _⟩
    · have h2c : decide (1 ≤ d ∧ d ≤ 60) = false := by simp; omega
      go_enter Try.func21, Try.ntmps21
      go_wp2_with (first | (go_at_call 49; refine (l6In_c _ _ _ _).mono ?_; rintro e w' ⟨rfl, rfl⟩) | (go_at_call 50; refine (l31Gcd_c _ _ _ (by omega) (by omega) (by omega) (by omega)).mono ?_; rintro e w' ⟨rfl, rfl⟩))
      go_ret
      exact ⟨ret_b (by simp only [fracOkB_eq, h2c]; simp), (Below.refl _ _).alloc (Nat.le_refl _) _⟩
  · have h1c : decide (0 ≤ n ∧ n ≤ 999) = false := by simp; omega
    go_enter Try.func21, Try.ntmps21
    go_wp2_with (first | (go_at_call 49; refine (l6In_c _ _ _ _).mono ?_; rintro e w' ⟨rfl, rfl⟩) | (go_at_call 50; refine (l31Gcd_c _ _ _ (by omega) (by omega) (by omega) (by omega)).mono ?_; rintro e w' ⟨rfl, rfl⟩))
    go_ret
    exact ⟨ret_b (by simp only [fracOkB_eq, h1c]; simp), (Below.refl _ _).alloc (Nat.le_refl _) _⟩
theorem iFracOk_c (n d : Int) (w : World) :
    Calls Try.prog 24 #[.agg #[.int .i64 n, .int .i64 d]] w fun e w' => e = .returned (.bool (fracOkB n d)) ∧ Below w.heap.size w w' := by
  by_cases h1 : 0 ≤ n ∧ n ≤ 999
  · obtain ⟨h1a, h1b⟩ := h1
    by_cases h2 : 1 ≤ d ∧ d ≤ 60
    · obtain ⟨h2a, h2b⟩ := h2
      go_enter Try.func24, Try.ntmps24
      go_wp2_with (first | (go_at_call 53; refine (within_c _ _ _ _).mono ?_; rintro e w' ⟨rfl, rfl⟩) | (go_at_call 54; refine (divisor_c _ _ _ (by omega) (by omega) (by omega) (by omega)).mono ?_; rintro e w' ⟨rfl, q, rfl⟩))
      go_ret
      exact ⟨ret_b (by simp [fracOkB_eq, h1a, h1b, h2a, h2b]), below_drewN ((Below.refl _ _).alloc (Nat.le_refl _) _) _⟩
    · have h2c : decide (1 ≤ d ∧ d ≤ 60) = false := by simp; omega
      go_enter Try.func24, Try.ntmps24
      go_wp2_with (first | (go_at_call 53; refine (within_c _ _ _ _).mono ?_; rintro e w' ⟨rfl, rfl⟩))
      go_ret
      exact ⟨ret_b (by simp only [fracOkB_eq, h2c]; simp), (Below.refl _ _).alloc (Nat.le_refl _) _⟩
  · have h1c : decide (0 ≤ n ∧ n ≤ 999) = false := by simp; omega
    go_enter Try.func24, Try.ntmps24
    go_wp2_with (first | (go_at_call 53; refine (within_c _ _ _ _).mono ?_; rintro e w' ⟨rfl, rfl⟩))
    go_ret
    exact ⟨ret_b (by simp only [fracOkB_eq, h1c]; simp), (Below.refl _ _).alloc (Nat.le_refl _) _⟩
end Go.Proofs.Ytnffoddeppimkaa
namespace Go.Proofs.Ytnffoddeppimkaa
open Go.RowKit
set_option linter.unusedVariables false
set_option linter.unusedSimpArgs false
theorem gcdI_pos (a b : Int) (ha : 0 ≤ a) (hb : 1 ≤ b) : 1 ≤ gcdI a b ∧ gcdI a b ≤ b := by
  unfold gcdI
  have h1 : 0 < Nat.gcd a.toNat b.toNat := Nat.gcd_pos_of_pos_right _ (by omega)
  have h2 : Nat.gcd a.toNat b.toNat ≤ b.toNat := Nat.gcd_le_right _ (by omega)
  omega
theorem l31Of_c (a b : Int) (w : World) (ha : 0 ≤ a) (hb : 1 ≤ b) (ha' : a ≤ 100000000) (hb' : b ≤ 100000000) :
    Calls Try.prog 86 #[.int .i64 a, .int .i64 b] w fun e w' => e = .returned (.agg #[.int .i64 (a / gcdI a b), .int .i64 (b / gcdI a b)]) ∧ Below w.heap.size w w' := by
  obtain ⟨hg1, hg2⟩ := gcdI_pos a b ha hb
  have hg3 : gcdI a b ≤ 100000000 := by omega
  have hd1 : 0 ≤ a / gcdI a b := Int.ediv_nonneg ha (by omega)
  have hd2 : a / gcdI a b ≤ a := Int.ediv_le_self _ ha
  have hd3 : 0 ≤ b / gcdI a b := Int.ediv_nonneg (by omega) (by omega)
  have hd4 : b / gcdI a b ≤ b := Int.ediv_le_self _ (by omega)
  generalize hgg : gcdI a b = g at *
  have Hg := Lib.hid hgg
  clear hgg
  go_enter Try.func86, Try.ntmps86
  go_wp2_with (first | (go_at_call 50; refine (l31Gcd_c _ _ _ (by omega) (by omega) (by omega) (by omega)).mono ?_; rintro e w' ⟨rfl, rfl⟩; rw [Hg.out]))
  go_region
  go_wp2
  refine bodyPost_ret (v := .agg #[.int .i64 (a / g), .int .i64 (b / g)]) (by simp [results, Try.results86, go_sem]) rfl ⟨rfl, (by repeat' (first | with_reducible exact bl_refl _ | with_reducible apply bl_alloc | with_reducible apply bl_drewN | with_reducible apply bl_drew | with_reducible apply bl_set | with_reducible refine bl_call (by assumption) ?_ | (simp; done) | (simp; omega) | omega))⟩
def redN (a b : Int) : Int := if fracOkB (a / gcdI a b) (b / gcdI a b) then a / gcdI a b else 0
def redD (a b : Int) : Int := if fracOkB (a / gcdI a b) (b / gcdI a b) then b / gcdI a b else 0
def redB (a b : Int) : Bool := fracOkB (a / gcdI a b) (b / gcdI a b)
theorem reduced_c (a b : Int) (w : World) (ha : 0 ≤ a) (hb : 1 ≤ b) (ha' : a ≤ 100000000) (hb' : b ≤ 100000000) :
    Calls Try.prog 102 #[.int .i64 a, .int .i64 b] w fun e w' => e = .returned (.tuple #[.agg #[.int .i64 (redN a b), .int .i64 (redD a b)], .bool (redB a b)]) ∧ Below w.heap.size w w' := by
  obtain ⟨hg1, hg2⟩ := gcdI_pos a b ha hb
  have hg3 : gcdI a b ≤ 100000000 := by omega
  have hd1 : 0 ≤ a / gcdI a b := Int.ediv_nonneg ha (by omega)
  have hd2 : a / gcdI a b ≤ a := Int.ediv_le_self _ ha
  have hd3 : 0 ≤ b / gcdI a b := Int.ediv_nonneg (by omega) (by omega)
  have hd4 : b / gcdI a b ≤ b := Int.ediv_le_self _ (by omega)
  unfold redN redD redB
  generalize hgg : gcdI a b = g at *
  have Hg := Lib.hid hgg
  clear hgg
  cases hok : fracOkB (a / g) (b / g)
  all_goals
    have Hok := Lib.hid hok
    clear hok
    go_enter Try.func102, Try.ntmps102
    go_wp2_with (first | (go_at_call 54; refine (divisor_c _ _ _ (by omega) (by omega) (by omega) (by omega)).mono ?_; rintro e w' ⟨rfl, q, rfl⟩; rw [Hg.out]))
    go_region
    go_wp2_with (first | (go_at_call 24; refine (iFracOk_c _ _ _).mono ?_; rintro e w1 ⟨rfl, hb1⟩; rw [Hok.out]; obtain ⟨hc, hf⟩ := bcell hb1; have hz := hb1.size; simp at hz))
  · refine bodyPost_ret (v := .tuple #[.agg #[.int .i64 0, .int .i64 0], .bool false]) (by simp (config := { maxDischargeDepth := 6 }) [results, Try.results102, go_sem, hc, hz]) rfl ⟨rfl, (by repeat' (first | with_reducible exact bl_refl _ | with_reducible apply bl_alloc | with_reducible apply bl_drewN | with_reducible apply bl_drew | with_reducible apply bl_set | with_reducible refine bl_call (by assumption) ?_ | (simp; done) | (simp; omega) | omega))⟩
  · refine bodyPost_ret (v := .tuple #[.agg #[.int .i64 (a / g), .int .i64 (b / g)], .bool true]) (by simp (config := { maxDischargeDepth := 6 }) [results, Try.results102, go_sem, hc, hz]) rfl ⟨rfl, (by repeat' (first | with_reducible exact bl_refl _ | with_reducible apply bl_alloc | with_reducible apply bl_drewN | with_reducible apply bl_drew | with_reducible apply bl_set | with_reducible refine bl_call (by assumption) ?_ | (simp; done) | (simp; omega) | omega))⟩
end Go.Proofs.Ytnffoddeppimkaa
namespace Go.Proofs.Ytnffoddeppimkaa
open Go.RowKit
set_option linter.unusedVariables false
set_option linter.unusedSimpArgs false
structure Fr where
  n : Int
  d : Int
def Fr.ok (f : Fr) : Bool := fracOkB f.n f.d
def Fr.v (f : Fr) : Value := .agg #[.int .i64 f.n, .int .i64 f.d]
def Fr.zero : Fr := ⟨0, 0⟩
theorem Fr.bounds {f : Fr} (h : f.ok = true) : 0 ≤ f.n ∧ f.n ≤ 999 ∧ 1 ≤ f.d ∧ f.d ≤ 60 := by
  simp [Fr.ok, fracOkB] at h; omega
def fsum (a b : Fr) : Fr × Bool :=
  if a.ok && b.ok then (⟨redN (a.n * b.d + b.n * a.d) (a.d * b.d), redD (a.n * b.d + b.n * a.d) (a.d * b.d)⟩, redB (a.n * b.d + b.n * a.d) (a.d * b.d)) else (Fr.zero, false)
theorem mulb {x y m n : Int} (h1 : 0 ≤ x) (h2 : x ≤ m) (h3 : 0 ≤ y) (h4 : y ≤ n) : 0 ≤ x * y ∧ x * y ≤ m * n :=
  ⟨Int.mul_nonneg h1 h3, Int.mul_le_mul h2 h4 h3 (by omega)⟩
theorem sumb {a b : Fr} (ha : a.ok = true) (hb : b.ok = true) : 0 ≤ a.n * b.d ∧ a.n * b.d ≤ 59940 ∧ 0 ≤ b.n * a.d ∧ b.n * a.d ≤ 59940 ∧ 1 ≤ a.d * b.d ∧ a.d * b.d ≤ 3600 := by
  obtain ⟨a1, a2, a3, a4⟩ := Fr.bounds ha
  obtain ⟨b1, b2, b3, b4⟩ := Fr.bounds hb
  have h1 := mulb a1 a2 (by omega) b4
  have h2 := mulb b1 b2 (by omega) a4
  have h3 := mulb (x := a.d) (y := b.d) (by omega) a4 (by omega) b4
  have h4 : 1 * 1 ≤ a.d * b.d := Int.mul_le_mul a3 b3 (by omega) (by omega)
  omega
theorem iFracSum_c (a b : Fr) (w : World) :
    Calls Try.prog 92 #[a.v, b.v] w fun e w' => e = .returned (.tuple #[(fsum a b).1.v, .bool (fsum a b).2]) ∧ Below w.heap.size w w' := by
  obtain ⟨an, ad⟩ := a
  obtain ⟨bn, bd⟩ := b
  by_cases hok : fracOkB an ad = true ∧ fracOkB bn bd = true
  · obtain ⟨ha, hb⟩ := hok
    have hs := sumb (a := ⟨an, ad⟩) (b := ⟨bn, bd⟩) ha hb
    simp only at hs
    obtain ⟨h1, h2, h3, h4, h5, h6⟩ := hs
    have hf : fsum ⟨an, ad⟩ ⟨bn, bd⟩ = (⟨redN (an * bd + bn * ad) (ad * bd), redD (an * bd + bn * ad) (ad * bd)⟩, redB (an * bd + bn * ad) (ad * bd)) := by
      simp [fsum, Fr.ok, ha, hb]
    rw [hf]
    simp only [Fr.v]
    have Ha := Lib.hid ha
    have Hb := Lib.hid hb
    clear ha hb hf
    go_enter Try.func92, Try.ntmps92
    go_wp2_with fail
    refine (iFracOk_c _ _ _).mono ?_; rintro e w1 ⟨rfl, hb1⟩; rw [Ha.out]; have hzw1_0 : w.heap.size < w1.heap.size := (by have hzz := hb1.size; (try simp at hzz); omega); have hzw1_1 : w.heap.size + 1 < w1.heap.size := (by have hzz := hb1.size; (try simp at hzz); omega); have hzw1_2 : w.heap.size + 1 + 1 < w1.heap.size := (by have hzz := hb1.size; (try simp at hzz); omega); have Lw1 := Locals.call hb1 (L := [(⟨w.heap.size, 0, none⟩, .int .i64 an), (⟨w.heap.size, 1, none⟩, .int .i64 ad), (⟨w.heap.size + 1, 0, none⟩, .int .i64 bn), (⟨w.heap.size + 1, 1, none⟩, .int .i64 bd), (⟨w.heap.size + 1 + 1, 0, none⟩, .int .i64 0), (⟨w.heap.size + 1 + 1, 1, none⟩, .int .i64 0)]) (by simp only [Locals]; repeat' (first | exact trivial | apply And.intro) <;> go_simp); obtain ⟨⟨cw1_0, fw1_0⟩, ⟨cw1_1, fw1_1⟩, ⟨cw1_2, fw1_2⟩, ⟨cw1_3, fw1_3⟩, ⟨cw1_4, fw1_4⟩, ⟨cw1_5, fw1_5⟩, -⟩ := Lw1
    go_wp2_with fail
    refine (iFracOk_c _ _ _).mono ?_; rintro e w2 ⟨rfl, hb2⟩; rw [Hb.out]; have hzw2_0 : w.heap.size < w2.heap.size := (by have hzz := hb2.size; (try simp at hzz); omega); have hzw2_1 : w.heap.size + 1 < w2.heap.size := (by have hzz := hb2.size; (try simp at hzz); omega); have hzw2_2 : w.heap.size + 1 + 1 < w2.heap.size := (by have hzz := hb2.size; (try simp at hzz); omega); have Lw2 := Locals.call hb2 (L := [(⟨w.heap.size, 0, none⟩, .int .i64 an), (⟨w.heap.size, 1, none⟩, .int .i64 ad), (⟨w.heap.size + 1, 0, none⟩, .int .i64 bn), (⟨w.heap.size + 1, 1, none⟩, .int .i64 bd), (⟨w.heap.size + 1 + 1, 0, none⟩, .int .i64 0), (⟨w.heap.size + 1 + 1, 1, none⟩, .int .i64 0)]) (by simp only [Locals]; repeat' (first | exact trivial | apply And.intro) <;> go_simp); obtain ⟨⟨cw2_0, fw2_0⟩, ⟨cw2_1, fw2_1⟩, ⟨cw2_2, fw2_2⟩, ⟨cw2_3, fw2_3⟩, ⟨cw2_4, fw2_4⟩, ⟨cw2_5, fw2_5⟩, -⟩ := Lw2
    go_wp2_with fail
    refine (reduced_c _ _ _ (by omega) (by omega) (by omega) (by omega)).mono ?_; rintro e w3 ⟨rfl, hb3⟩; have hzw3_0 : w.heap.size < w3.heap.size := (by have hzz := hb3.size; (try simp at hzz); omega); have hzw3_1 : w.heap.size + 1 < w3.heap.size := (by have hzz := hb3.size; (try simp at hzz); omega); have hzw3_2 : w.heap.size + 1 + 1 < w3.heap.size := (by have hzz := hb3.size; (try simp at hzz); omega); have Lw3 := Locals.call hb3 (L := [(⟨w.heap.size, 0, none⟩, .int .i64 an), (⟨w.heap.size, 1, none⟩, .int .i64 ad), (⟨w.heap.size + 1, 0, none⟩, .int .i64 bn), (⟨w.heap.size + 1, 1, none⟩, .int .i64 bd), (⟨w.heap.size + 1 + 1, 0, none⟩, .int .i64 0), (⟨w.heap.size + 1 + 1, 1, none⟩, .int .i64 0)]) (by simp only [Locals]; repeat' (first | exact trivial | apply And.intro) <;> go_simp); obtain ⟨⟨cw3_0, fw3_0⟩, ⟨cw3_1, fw3_1⟩, ⟨cw3_2, fw3_2⟩, ⟨cw3_3, fw3_3⟩, ⟨cw3_4, fw3_4⟩, ⟨cw3_5, fw3_5⟩, -⟩ := Lw3
    go_wp2_with fail
    refine bodyPost_ret (v := .tuple #[.agg #[.int .i64 (redN (an * bd + bn * ad) (ad * bd)), .int .i64 (redD (an * bd + bn * ad) (ad * bd))], .bool (redB (an * bd + bn * ad) (ad * bd))]) (by simp only [results, Try.results92]; go_simp) rfl ⟨rfl, (by repeat' (first | with_reducible exact bl_refl _ | with_reducible apply bl_alloc | with_reducible apply bl_drewN | with_reducible apply bl_drew | with_reducible apply bl_set | with_reducible refine bl_call (by assumption) ?_ | (simp; done) | (simp; omega) | omega))⟩
  · have hf : fsum ⟨an, ad⟩ ⟨bn, bd⟩ = (Fr.zero, false) := by
      unfold fsum Fr.ok; exact if_neg (by simpa using hok)
    rw [hf]
    simp only [Fr.v, Fr.zero]
    clear hf
    cases ha : fracOkB an ad
    · have Ha := Lib.hid ha
      clear ha hok
      go_enter Try.func92, Try.ntmps92
      go_wp2_with fail
      refine (iFracOk_c _ _ _).mono ?_; rintro e w1 ⟨rfl, hb1⟩; rw [Ha.out]; have hzw1_0 : w.heap.size < w1.heap.size := (by have hzz := hb1.size; (try simp at hzz); omega); have hzw1_1 : w.heap.size + 1 < w1.heap.size := (by have hzz := hb1.size; (try simp at hzz); omega); have hzw1_2 : w.heap.size + 1 + 1 < w1.heap.size := (by have hzz := hb1.size; (try simp at hzz); omega); have Lw1 := Locals.call hb1 (L := [(⟨w.heap.size, 0, none⟩, .int .i64 an), (⟨w.heap.size, 1, none⟩, .int .i64 ad), (⟨w.heap.size + 1, 0, none⟩, .int .i64 bn), (⟨w.heap.size + 1, 1, none⟩, .int .i64 bd), (⟨w.heap.size + 1 + 1, 0, none⟩, .int .i64 0), (⟨w.heap.size + 1 + 1, 1, none⟩, .int .i64 0)]) (by simp only [Locals]; repeat' (first | exact trivial | apply And.intro) <;> go_simp); obtain ⟨⟨cw1_0, fw1_0⟩, ⟨cw1_1, fw1_1⟩, ⟨cw1_2, fw1_2⟩, ⟨cw1_3, fw1_3⟩, ⟨cw1_4, fw1_4⟩, ⟨cw1_5, fw1_5⟩, -⟩ := Lw1
      go_wp2_with fail
      refine bodyPost_ret (v := .tuple #[.agg #[.int .i64 0, .int .i64 0], .bool false]) (by simp only [results, Try.results92]; go_simp) rfl ⟨rfl, (by repeat' (first | with_reducible exact bl_refl _ | with_reducible apply bl_alloc | with_reducible apply bl_drewN | with_reducible apply bl_drew | with_reducible apply bl_set | with_reducible refine bl_call (by assumption) ?_ | (simp; done) | (simp; omega) | omega))⟩
    · have hb : fracOkB bn bd = false := by simpa [ha] using hok
      have Ha := Lib.hid ha
      have Hb := Lib.hid hb
      clear ha hb hok
      go_enter Try.func92, Try.ntmps92
      go_wp2_with fail
      refine (iFracOk_c _ _ _).mono ?_; rintro e w1 ⟨rfl, hb1⟩; rw [Ha.out]; have hzw1_0 : w.heap.size < w1.heap.size := (by have hzz := hb1.size; (try simp at hzz); omega); have hzw1_1 : w.heap.size + 1 < w1.heap.size := (by have hzz := hb1.size; (try simp at hzz); omega); have hzw1_2 : w.heap.size + 1 + 1 < w1.heap.size := (by have hzz := hb1.size; (try simp at hzz); omega); have Lw1 := Locals.call hb1 (L := [(⟨w.heap.size, 0, none⟩, .int .i64 an), (⟨w.heap.size, 1, none⟩, .int .i64 ad), (⟨w.heap.size + 1, 0, none⟩, .int .i64 bn), (⟨w.heap.size + 1, 1, none⟩, .int .i64 bd), (⟨w.heap.size + 1 + 1, 0, none⟩, .int .i64 0), (⟨w.heap.size + 1 + 1, 1, none⟩, .int .i64 0)]) (by simp only [Locals]; repeat' (first | exact trivial | apply And.intro) <;> go_simp); obtain ⟨⟨cw1_0, fw1_0⟩, ⟨cw1_1, fw1_1⟩, ⟨cw1_2, fw1_2⟩, ⟨cw1_3, fw1_3⟩, ⟨cw1_4, fw1_4⟩, ⟨cw1_5, fw1_5⟩, -⟩ := Lw1
      go_wp2_with fail
      refine (iFracOk_c _ _ _).mono ?_; rintro e w2 ⟨rfl, hb2⟩; rw [Hb.out]; have hzw2_0 : w.heap.size < w2.heap.size := (by have hzz := hb2.size; (try simp at hzz); omega); have hzw2_1 : w.heap.size + 1 < w2.heap.size := (by have hzz := hb2.size; (try simp at hzz); omega); have hzw2_2 : w.heap.size + 1 + 1 < w2.heap.size := (by have hzz := hb2.size; (try simp at hzz); omega); have Lw2 := Locals.call hb2 (L := [(⟨w.heap.size, 0, none⟩, .int .i64 an), (⟨w.heap.size, 1, none⟩, .int .i64 ad), (⟨w.heap.size + 1, 0, none⟩, .int .i64 bn), (⟨w.heap.size + 1, 1, none⟩, .int .i64 bd), (⟨w.heap.size + 1 + 1, 0, none⟩, .int .i64 0), (⟨w.heap.size + 1 + 1, 1, none⟩, .int .i64 0)]) (by simp only [Locals]; repeat' (first | exact trivial | apply And.intro) <;> go_simp); obtain ⟨⟨cw2_0, fw2_0⟩, ⟨cw2_1, fw2_1⟩, ⟨cw2_2, fw2_2⟩, ⟨cw2_3, fw2_3⟩, ⟨cw2_4, fw2_4⟩, ⟨cw2_5, fw2_5⟩, -⟩ := Lw2
      go_wp2_with fail
      refine bodyPost_ret (v := .tuple #[.agg #[.int .i64 0, .int .i64 0], .bool false]) (by simp only [results, Try.results92]; go_simp) rfl ⟨rfl, (by repeat' (first | with_reducible exact bl_refl _ | with_reducible apply bl_alloc | with_reducible apply bl_drewN | with_reducible apply bl_drew | with_reducible apply bl_set | with_reducible refine bl_call (by assumption) ?_ | (simp; done) | (simp; omega) | omega))⟩
theorem sFracSum_c (a b : Fr) (w : World) :
    Calls Try.prog 78 #[a.v, b.v] w fun e w' => e = .returned (.tuple #[(fsum a b).1.v, .bool (fsum a b).2]) ∧ Below w.heap.size w w' := by
  obtain ⟨an, ad⟩ := a
  obtain ⟨bn, bd⟩ := b
  by_cases hok : fracOkB an ad = true ∧ fracOkB bn bd = true
  · obtain ⟨ha, hb⟩ := hok
    have hs := sumb (a := ⟨an, ad⟩) (b := ⟨bn, bd⟩) ha hb
    simp only at hs
    obtain ⟨h1, h2, h3, h4, h5, h6⟩ := hs
    have hf : fsum ⟨an, ad⟩ ⟨bn, bd⟩ = (⟨redN (an * bd + bn * ad) (ad * bd), redD (an * bd + bn * ad) (ad * bd)⟩, redB (an * bd + bn * ad) (ad * bd)) := by
      simp [fsum, Fr.ok, ha, hb]
    rw [hf]
    simp only [Fr.v]
    have Ha := Lib.hid ha
    have Hb := Lib.hid hb
    clear ha hb hf
    cases hr : fracOkB ((an * bd + bn * ad) / gcdI (an * bd + bn * ad) (ad * bd)) (ad * bd / gcdI (an * bd + bn * ad) (ad * bd))
    all_goals
      have Hr := Lib.hid hr
      clear hr
      go_enter Try.func78, Try.ntmps78
      go_wp2_with fail
      refine (sFracOk_c _ _ _).mono ?_; rintro e w1 ⟨rfl, hb1⟩; rw [Ha.out]; have hzw1_0 : w.heap.size < w1.heap.size := (by have hzz := hb1.size; (try simp at hzz); omega); have hzw1_1 : w.heap.size + 1 < w1.heap.size := (by have hzz := hb1.size; (try simp at hzz); omega); have hzw1_2 : w.heap.size + 1 + 1 < w1.heap.size := (by have hzz := hb1.size; (try simp at hzz); omega); have Lw1 := Locals.call hb1 (L := [(⟨w.heap.size, 0, none⟩, .int .i64 an), (⟨w.heap.size, 1, none⟩, .int .i64 ad), (⟨w.heap.size + 1, 0, none⟩, .int .i64 bn), (⟨w.heap.size + 1, 1, none⟩, .int .i64 bd), (⟨w.heap.size + 1 + 1, 0, none⟩, .int .i64 0), (⟨w.heap.size + 1 + 1, 1, none⟩, .int .i64 0)]) (by simp only [Locals]; repeat' (first | exact trivial | apply And.intro) <;> go_simp); obtain ⟨⟨cw1_0, fw1_0⟩, ⟨cw1_1, fw1_1⟩, ⟨cw1_2, fw1_2⟩, ⟨cw1_3, fw1_3⟩, ⟨cw1_4, fw1_4⟩, ⟨cw1_5, fw1_5⟩, -⟩ := Lw1
      go_wp2_with fail
      refine (sFracOk_c _ _ _).mono ?_; rintro e w2 ⟨rfl, hb2⟩; rw [Hb.out]; have hzw2_0 : w.heap.size < w2.heap.size := (by have hzz := hb2.size; (try simp at hzz); omega); have hzw2_1 : w.heap.size + 1 < w2.heap.size := (by have hzz := hb2.size; (try simp at hzz); omega); have hzw2_2 : w.heap.size + 1 + 1 < w2.heap.size := (by have hzz := hb2.size; (try simp at hzz); omega); have Lw2 := Locals.call hb2 (L := [(⟨w.heap.size, 0, none⟩, .int .i64 an), (⟨w.heap.size, 1, none⟩, .int .i64 ad), (⟨w.heap.size + 1, 0, none⟩, .int .i64 bn), (⟨w.heap.size + 1, 1, none⟩, .int .i64 bd), (⟨w.heap.size + 1 + 1, 0, none⟩, .int .i64 0), (⟨w.heap.size + 1 + 1, 1, none⟩, .int .i64 0)]) (by simp only [Locals]; repeat' (first | exact trivial | apply And.intro) <;> go_simp); obtain ⟨⟨cw2_0, fw2_0⟩, ⟨cw2_1, fw2_1⟩, ⟨cw2_2, fw2_2⟩, ⟨cw2_3, fw2_3⟩, ⟨cw2_4, fw2_4⟩, ⟨cw2_5, fw2_5⟩, -⟩ := Lw2
      go_wp2_with fail
      refine (l31Of_c _ _ _ (by omega) (by omega) (by omega) (by omega)).mono ?_; rintro e w3 ⟨rfl, hb3⟩; have hzw3_0 : w.heap.size < w3.heap.size := (by have hzz := hb3.size; (try simp at hzz); omega); have hzw3_1 : w.heap.size + 1 < w3.heap.size := (by have hzz := hb3.size; (try simp at hzz); omega); have hzw3_2 : w.heap.size + 1 + 1 < w3.heap.size := (by have hzz := hb3.size; (try simp at hzz); omega); have Lw3 := Locals.call hb3 (L := [(⟨w.heap.size, 0, none⟩, .int .i64 an), (⟨w.heap.size, 1, none⟩, .int .i64 ad), (⟨w.heap.size + 1, 0, none⟩, .int .i64 bn), (⟨w.heap.size + 1, 1, none⟩, .int .i64 bd), (⟨w.heap.size + 1 + 1, 0, none⟩, .int .i64 0), (⟨w.heap.size + 1 + 1, 1, none⟩, .int .i64 0)]) (by simp only [Locals]; repeat' (first | exact trivial | apply And.intro) <;> go_simp); obtain ⟨⟨cw3_0, fw3_0⟩, ⟨cw3_1, fw3_1⟩, ⟨cw3_2, fw3_2⟩, ⟨cw3_3, fw3_3⟩, ⟨cw3_4, fw3_4⟩, ⟨cw3_5, fw3_5⟩, -⟩ := Lw3
      go_wp2_with fail
      refine (sFracOk_c _ _ _).mono ?_; rintro e w4 ⟨rfl, hb4⟩; rw [Hr.out]; have hzw4_0 : w.heap.size < w4.heap.size := (by have hzz := hb4.size; (try simp at hzz); omega); have hzw4_1 : w.heap.size + 1 < w4.heap.size := (by have hzz := hb4.size; (try simp at hzz); omega); have hzw4_2 : w.heap.size + 1 + 1 < w4.heap.size := (by have hzz := hb4.size; (try simp at hzz); omega); have hzw4_3 : w3.heap.size < w4.heap.size := (by have hzz := hb4.size; (try simp at hzz); omega); have Lw4 := Locals.call hb4 (L := [(⟨w.heap.size, 0, none⟩, .int .i64 an), (⟨w.heap.size, 1, none⟩, .int .i64 ad), (⟨w.heap.size + 1, 0, none⟩, .int .i64 bn), (⟨w.heap.size + 1, 1, none⟩, .int .i64 bd), (⟨w.heap.size + 1 + 1, 0, none⟩, .int .i64 0), (⟨w.heap.size + 1 + 1, 1, none⟩, .int .i64 0), (⟨w3.heap.size, 0, none⟩, .int .i64 ((an * bd + bn * ad) / gcdI (an * bd + bn * ad) (ad * bd))), (⟨w3.heap.size, 1, none⟩, .int .i64 (ad * bd / gcdI (an * bd + bn * ad) (ad * bd)))]) (by simp only [Locals]; repeat' (first | exact trivial | apply And.intro) <;> go_simp); obtain ⟨⟨cw4_0, fw4_0⟩, ⟨cw4_1, fw4_1⟩, ⟨cw4_2, fw4_2⟩, ⟨cw4_3, fw4_3⟩, ⟨cw4_4, fw4_4⟩, ⟨cw4_5, fw4_5⟩, ⟨cw4_6, fw4_6⟩, ⟨cw4_7, fw4_7⟩, -⟩ := Lw4
      go_wp2_with fail
    · simp only [redN, redD, redB, Hr.out]
      refine bodyPost_ret (v := .tuple #[.agg #[.int .i64 0, .int .i64 0], .bool false]) (by simp only [results, Try.results78]; go_simp) rfl ⟨rfl, (by repeat' (first | with_reducible exact bl_refl _ | with_reducible apply bl_alloc | with_reducible apply bl_drewN | with_reducible apply bl_drew | with_reducible apply bl_set | with_reducible refine bl_call (by assumption) ?_ | (simp; done) | (simp; omega) | omega))⟩
    · simp only [redN, redD, redB, Hr.out]
      refine bodyPost_ret (v := .tuple #[.agg #[.int .i64 ((an * bd + bn * ad) / gcdI (an * bd + bn * ad) (ad * bd)), .int .i64 (ad * bd / gcdI (an * bd + bn * ad) (ad * bd))], .bool true]) (by simp only [results, Try.results78]; go_simp) rfl ⟨rfl, (by repeat' (first | with_reducible exact bl_refl _ | with_reducible apply bl_alloc | with_reducible apply bl_drewN | with_reducible apply bl_drew | with_reducible apply bl_set | with_reducible refine bl_call (by assumption) ?_ | (simp; done) | (simp; omega) | omega))⟩
  · have hf : fsum ⟨an, ad⟩ ⟨bn, bd⟩ = (Fr.zero, false) := by
      unfold fsum Fr.ok; exact if_neg (by simpa using hok)
    rw [hf]
    simp only [Fr.v, Fr.zero]
    clear hf
    cases ha : fracOkB an ad
    · have Ha := Lib.hid ha
      clear ha hok
      go_enter Try.func78, Try.ntmps78
      go_wp2_with fail
      refine (sFracOk_c _ _ _).mono ?_; rintro e w1 ⟨rfl, hb1⟩; rw [Ha.out]; have hzw1_0 : w.heap.size < w1.heap.size := (by have hzz := hb1.size; (try simp at hzz); omega); have hzw1_1 : w.heap.size + 1 < w1.heap.size := (by have hzz := hb1.size; (try simp at hzz); omega); have hzw1_2 : w.heap.size + 1 + 1 < w1.heap.size := (by have hzz := hb1.size; (try simp at hzz); omega); have Lw1 := Locals.call hb1 (L := [(⟨w.heap.size, 0, none⟩, .int .i64 an), (⟨w.heap.size, 1, none⟩, .int .i64 ad), (⟨w.heap.size + 1, 0, none⟩, .int .i64 bn), (⟨w.heap.size + 1, 1, none⟩, .int .i64 bd), (⟨w.heap.size + 1 + 1, 0, none⟩, .int .i64 0), (⟨w.heap.size + 1 + 1, 1, none⟩, .int .i64 0)]) (by simp only [Locals]; repeat' (first | exact trivial | apply And.intro) <;> go_simp); obtain ⟨⟨cw1_0, fw1_0⟩, ⟨cw1_1, fw1_1⟩, ⟨cw1_2, fw1_2⟩, ⟨cw1_3, fw1_3⟩, ⟨cw1_4, fw1_4⟩, ⟨cw1_5, fw1_5⟩, -⟩ := Lw1
      go_wp2_with fail
      refine bodyPost_ret (v := .tuple #[.agg #[.int .i64 0, .int .i64 0], .bool false]) (by simp only [results, Try.results78]; go_simp) rfl ⟨rfl, (by repeat' (first | with_reducible exact bl_refl _ | with_reducible apply bl_alloc | with_reducible apply bl_drewN | with_reducible apply bl_drew | with_reducible apply bl_set | with_reducible refine bl_call (by assumption) ?_ | (simp; done) | (simp; omega) | omega))⟩
    · have hb : fracOkB bn bd = false := by simpa [ha] using hok
      have Ha := Lib.hid ha
      have Hb := Lib.hid hb
      clear ha hb hok
      go_enter Try.func78, Try.ntmps78
      go_wp2_with fail
      refine (sFracOk_c _ _ _).mono ?_; rintro e w1 ⟨rfl, hb1⟩; rw [Ha.out]; have hzw1_0 : w.heap.size < w1.heap.size := (by have hzz := hb1.size; (try simp at hzz); omega); have hzw1_1 : w.heap.size + 1 < w1.heap.size := (by have hzz := hb1.size; (try simp at hzz); omega); have hzw1_2 : w.heap.size + 1 + 1 < w1.heap.size := (by have hzz := hb1.size; (try simp at hzz); omega); have Lw1 := Locals.call hb1 (L := [(⟨w.heap.size, 0, none⟩, .int .i64 an), (⟨w.heap.size, 1, none⟩, .int .i64 ad), (⟨w.heap.size + 1, 0, none⟩, .int .i64 bn), (⟨w.heap.size + 1, 1, none⟩, .int .i64 bd), (⟨w.heap.size + 1 + 1, 0, none⟩, .int .i64 0), (⟨w.heap.size + 1 + 1, 1, none⟩, .int .i64 0)]) (by simp only [Locals]; repeat' (first | exact trivial | apply And.intro) <;> go_simp); obtain ⟨⟨cw1_0, fw1_0⟩, ⟨cw1_1, fw1_1⟩, ⟨cw1_2, fw1_2⟩, ⟨cw1_3, fw1_3⟩, ⟨cw1_4, fw1_4⟩, ⟨cw1_5, fw1_5⟩, -⟩ := Lw1
      go_wp2_with fail
      refine (sFracOk_c _ _ _).mono ?_; rintro e w2 ⟨rfl, hb2⟩; rw [Hb.out]; have hzw2_0 : w.heap.size < w2.heap.size := (by have hzz := hb2.size; (try simp at hzz); omega); have hzw2_1 : w.heap.size + 1 < w2.heap.size := (by have hzz := hb2.size; (try simp at hzz); omega); have hzw2_2 : w.heap.size + 1 + 1 < w2.heap.size := (by have hzz := hb2.size; (try simp at hzz); omega); have Lw2 := Locals.call hb2 (L := [(⟨w.heap.size, 0, none⟩, .int .i64 an), (⟨w.heap.size, 1, none⟩, .int .i64 ad), (⟨w.heap.size + 1, 0, none⟩, .int .i64 bn), (⟨w.heap.size + 1, 1, none⟩, .int .i64 bd), (⟨w.heap.size + 1 + 1, 0, none⟩, .int .i64 0), (⟨w.heap.size + 1 + 1, 1, none⟩, .int .i64 0)]) (by simp only [Locals]; repeat' (first | exact trivial | apply And.intro) <;> go_simp); obtain ⟨⟨cw2_0, fw2_0⟩, ⟨cw2_1, fw2_1⟩, ⟨cw2_2, fw2_2⟩, ⟨cw2_3, fw2_3⟩, ⟨cw2_4, fw2_4⟩, ⟨cw2_5, fw2_5⟩, -⟩ := Lw2
      go_wp2_with fail
      refine bodyPost_ret (v := .tuple #[.agg #[.int .i64 0, .int .i64 0], .bool false]) (by simp only [results, Try.results78]; go_simp) rfl ⟨rfl, (by repeat' (first | with_reducible exact bl_refl _ | with_reducible apply bl_alloc | with_reducible apply bl_drewN | with_reducible apply bl_drew | with_reducible apply bl_set | with_reducible refine bl_call (by assumption) ?_ | (simp; done) | (simp; omega) | omega))⟩
end Go.Proofs.Ytnffoddeppimkaa
namespace Go.Proofs.Ytnffoddeppimkaa
open Go.RowKit
set_option linter.unusedVariables false
set_option linter.unusedSimpArgs false
def cmpI (x y : Int) : Int := if x < y then -1 else if y < x then 1 else 0
def fcmp (a b : Fr) : Int := if a.ok && b.ok then cmpI (a.n * b.d) (b.n * a.d) else 0
theorem isNaN_c (x : Int) (w : World) : Calls Try.prog 108 #[.int .i64 x] w fun e w' => e = .returned (.bool false) ∧ w = w' := by
  go_enter Try.func108, Try.ntmps108
  go_wp2
  go_ret
  exact ⟨ret_b (by simp), rfl⟩
theorem compare_c (x y : Int) (w : World) : Calls Try.prog 103 #[.int .i64 x, .int .i64 y] w fun e w' => e = .returned (.int .i64 (cmpI x y)) ∧ w = w' := by
  by_cases h1 : x < y
  · go_enter Try.func103, Try.ntmps103
    go_wp2_with (go_at_call 108; refine (isNaN_c _ _).mono ?_; rintro e w' ⟨rfl, rfl⟩)
    go_ret
    exact ⟨ret_i (by unfold cmpI; rw [if_pos h1]), rfl⟩
  · by_cases h2 : y < x
    · go_enter Try.func103, Try.ntmps103
      go_wp2_with (go_at_call 108; refine (isNaN_c _ _).mono ?_; rintro e w' ⟨rfl, rfl⟩)
      go_ret
      exact ⟨ret_i (by unfold cmpI; rw [if_neg (by omega), if_pos h2]), rfl⟩
    · go_enter Try.func103, Try.ntmps103
      go_wp2_with (go_at_call 108; refine (isNaN_c _ _).mono ?_; rintro e w' ⟨rfl, rfl⟩)
      go_ret
      exact ⟨ret_i (by unfold cmpI; rw [if_neg (by omega), if_neg (by omega)]), rfl⟩
theorem l31Cmp_c (a b : Fr) (w : World) (ha : a.ok = true) (hb : b.ok = true) :
    Calls Try.prog 65 #[a.v, b.v] w fun e w' => e = .returned (.int .i64 (cmpI (a.n * b.d) (b.n * a.d))) ∧ Below w.heap.size w w' := by
  have hs := sumb ha hb
  obtain ⟨an, ad⟩ := a
  obtain ⟨bn, bd⟩ := b
  simp only at hs
  obtain ⟨g1, g2, g3, g4, g5, g6⟩ := hs
  simp only [Fr.v]
  clear ha hb
  by_cases h1 : an * bd < bn * ad
  · go_enter Try.func65, Try.ntmps65
    go_wp2
    go_ret
    exact ⟨ret_i (by unfold cmpI; rw [if_pos h1]), (by repeat' (first | with_reducible exact bl_refl _ | with_reducible apply bl_alloc | with_reducible apply bl_drewN | with_reducible apply bl_drew | with_reducible apply bl_set | with_reducible refine bl_call (by assumption) ?_ | (simp; done) | (simp; omega) | omega))⟩
  · by_cases h2 : bn * ad < an * bd
    · go_enter Try.func65, Try.ntmps65
      go_wp2
      go_ret
      exact ⟨ret_i (by unfold cmpI; rw [if_neg (by omega), if_pos h2]), (by repeat' (first | with_reducible exact bl_refl _ | with_reducible apply bl_alloc | with_reducible apply bl_drewN | with_reducible apply bl_drew | with_reducible apply bl_set | with_reducible refine bl_call (by assumption) ?_ | (simp; done) | (simp; omega) | omega))⟩
    · go_enter Try.func65, Try.ntmps65
      go_wp2
      go_ret
      exact ⟨ret_i (by unfold cmpI; rw [if_neg (by omega), if_neg (by omega)]), (by repeat' (first | with_reducible exact bl_refl _ | with_reducible apply bl_alloc | with_reducible apply bl_drewN | with_reducible apply bl_drew | with_reducible apply bl_set | with_reducible refine bl_call (by assumption) ?_ | (simp; done) | (simp; omega) | omega))⟩
theorem iFracCmp_c (a b : Fr) (w : World) :
    Calls Try.prog 93 #[a.v, b.v] w fun e w' => e = .returned (.int .i64 (fcmp a b)) ∧ Below w.heap.size w w' := by
  obtain ⟨an, ad⟩ := a
  obtain ⟨bn, bd⟩ := b
  by_cases hok : fracOkB an ad = true ∧ fracOkB bn bd = true
  · obtain ⟨ha, hb⟩ := hok
    have hs := sumb (a := ⟨an, ad⟩) (b := ⟨bn, bd⟩) ha hb
    simp only at hs
    obtain ⟨h1, h2, h3, h4, h5, h6⟩ := hs
    have hf : fcmp ⟨an, ad⟩ ⟨bn, bd⟩ = cmpI (an * bd) (bn * ad) := by unfold fcmp Fr.ok; exact if_pos (by simp [ha, hb])
    rw [hf]
    simp only [Fr.v]
    have Ha := Lib.hid ha
    have Hb := Lib.hid hb
    clear ha hb hf
    go_enter Try.func93, Try.ntmps93
    go_wp2_with fail
    refine (iFracOk_c _ _ _).mono ?_; rintro e w1 ⟨rfl, hb1⟩; rw [Ha.out]; have hzw1_0 : w.heap.size < w1.heap.size := (by have hzz := hb1.size; (try simp at hzz); omega); have hzw1_1 : w.heap.size + 1 < w1.heap.size := (by have hzz := hb1.size; (try simp at hzz); omega); have Lw1 := Locals.call hb1 (L := [(⟨w.heap.size, 0, none⟩, .int .i64 an), (⟨w.heap.size, 1, none⟩, .int .i64 ad), (⟨w.heap.size + 1, 0, none⟩, .int .i64 bn), (⟨w.heap.size + 1, 1, none⟩, .int .i64 bd)]) (by simp only [Locals]; repeat' (first | exact trivial | apply And.intro) <;> go_simp); obtain ⟨⟨cw1_0, fw1_0⟩, ⟨cw1_1, fw1_1⟩, ⟨cw1_2, fw1_2⟩, ⟨cw1_3, fw1_3⟩, -⟩ := Lw1
    go_wp2_with fail
    refine (iFracOk_c _ _ _).mono ?_; rintro e w2 ⟨rfl, hb2⟩; rw [Hb.out]; have hzw2_0 : w.heap.size < w2.heap.size := (by have hzz := hb2.size; (try simp at hzz); omega); have hzw2_1 : w.heap.size + 1 < w2.heap.size := (by have hzz := hb2.size; (try simp at hzz); omega); have Lw2 := Locals.call hb2 (L := [(⟨w.heap.size, 0, none⟩, .int .i64 an), (⟨w.heap.size, 1, none⟩, .int .i64 ad), (⟨w.heap.size + 1, 0, none⟩, .int .i64 bn), (⟨w.heap.size + 1, 1, none⟩, .int .i64 bd)]) (by simp only [Locals]; repeat' (first | exact trivial | apply And.intro) <;> go_simp); obtain ⟨⟨cw2_0, fw2_0⟩, ⟨cw2_1, fw2_1⟩, ⟨cw2_2, fw2_2⟩, ⟨cw2_3, fw2_3⟩, -⟩ := Lw2
    go_wp2_with fail
    refine (compare_c _ _ _).mono ?_; rintro e w' ⟨rfl, rfl⟩
    go_wp2_with fail
    go_ret
    exact ⟨rfl, (by repeat' (first | with_reducible exact bl_refl _ | with_reducible apply bl_alloc | with_reducible apply bl_drewN | with_reducible apply bl_drew | with_reducible apply bl_set | with_reducible refine bl_call (by assumption) ?_ | (simp; done) | (simp; omega) | omega))⟩
  · have hf : fcmp ⟨an, ad⟩ ⟨bn, bd⟩ = 0 := by unfold fcmp Fr.ok; exact if_neg (by simpa using hok)
    rw [hf]
    simp only [Fr.v]
    clear hf
    cases ha : fracOkB an ad
    · have Ha := Lib.hid ha
      clear ha hok
      go_enter Try.func93, Try.ntmps93
      go_wp2_with fail
      refine (iFracOk_c _ _ _).mono ?_; rintro e w1 ⟨rfl, hb1⟩; rw [Ha.out]; have hzw1_0 : w.heap.size < w1.heap.size := (by have hzz := hb1.size; (try simp at hzz); omega); have hzw1_1 : w.heap.size + 1 < w1.heap.size := (by have hzz := hb1.size; (try simp at hzz); omega); have Lw1 := Locals.call hb1 (L := [(⟨w.heap.size, 0, none⟩, .int .i64 an), (⟨w.heap.size, 1, none⟩, .int .i64 ad), (⟨w.heap.size + 1, 0, none⟩, .int .i64 bn), (⟨w.heap.size + 1, 1, none⟩, .int .i64 bd)]) (by simp only [Locals]; repeat' (first | exact trivial | apply And.intro) <;> go_simp); obtain ⟨⟨cw1_0, fw1_0⟩, ⟨cw1_1, fw1_1⟩, ⟨cw1_2, fw1_2⟩, ⟨cw1_3, fw1_3⟩, -⟩ := Lw1
      go_wp2_with fail
      go_ret
      exact ⟨rfl, (by repeat' (first | with_reducible exact bl_refl _ | with_reducible apply bl_alloc | with_reducible apply bl_drewN | with_reducible apply bl_drew | with_reducible apply bl_set | with_reducible refine bl_call (by assumption) ?_ | (simp; done) | (simp; omega) | omega))⟩
    · have hb : fracOkB bn bd = false := by simpa [ha] using hok
      have Ha := Lib.hid ha
      have Hb := Lib.hid hb
      clear ha hb hok
      go_enter Try.func93, Try.ntmps93
      go_wp2_with fail
      refine (iFracOk_c _ _ _).mono ?_; rintro e w1 ⟨rfl, hb1⟩; rw [Ha.out]; have hzw1_0 : w.heap.size < w1.heap.size := (by have hzz := hb1.size; (try simp at hzz); omega); have hzw1_1 : w.heap.size + 1 < w1.heap.size := (by have hzz := hb1.size; (try simp at hzz); omega); have Lw1 := Locals.call hb1 (L := [(⟨w.heap.size, 0, none⟩, .int .i64 an), (⟨w.heap.size, 1, none⟩, .int .i64 ad), (⟨w.heap.size + 1, 0, none⟩, .int .i64 bn), (⟨w.heap.size + 1, 1, none⟩, .int .i64 bd)]) (by simp only [Locals]; repeat' (first | exact trivial | apply And.intro) <;> go_simp); obtain ⟨⟨cw1_0, fw1_0⟩, ⟨cw1_1, fw1_1⟩, ⟨cw1_2, fw1_2⟩, ⟨cw1_3, fw1_3⟩, -⟩ := Lw1
      go_wp2_with fail
      refine (iFracOk_c _ _ _).mono ?_; rintro e w2 ⟨rfl, hb2⟩; rw [Hb.out]; have hzw2_0 : w.heap.size < w2.heap.size := (by have hzz := hb2.size; (try simp at hzz); omega); have hzw2_1 : w.heap.size + 1 < w2.heap.size := (by have hzz := hb2.size; (try simp at hzz); omega); have Lw2 := Locals.call hb2 (L := [(⟨w.heap.size, 0, none⟩, .int .i64 an), (⟨w.heap.size, 1, none⟩, .int .i64 ad), (⟨w.heap.size + 1, 0, none⟩, .int .i64 bn), (⟨w.heap.size + 1, 1, none⟩, .int .i64 bd)]) (by simp only [Locals]; repeat' (first | exact trivial | apply And.intro) <;> go_simp); obtain ⟨⟨cw2_0, fw2_0⟩, ⟨cw2_1, fw2_1⟩, ⟨cw2_2, fw2_2⟩, ⟨cw2_3, fw2_3⟩, -⟩ := Lw2
      go_wp2_with fail
      go_ret
      exact ⟨rfl, (by repeat' (first | with_reducible exact bl_refl _ | with_reducible apply bl_alloc | with_reducible apply bl_drewN | with_reducible apply bl_drew | with_reducible apply bl_set | with_reducible refine bl_call (by assumption) ?_ | (simp; done) | (simp; omega) | omega))⟩
end Go.Proofs.Ytnffoddeppimkaa
namespace Go.Proofs.Ytnffoddeppimkaa
open Go.RowKit Go.Shelf
set_option linter.unusedVariables false
set_option linter.unusedSimpArgs false
attribute [local go_sem] Oper.semAt_some
def FracsAt (w : World) (v : Value) (fs : List Fr) : Prop :=
  ∃ a cap, v = .slice a fs.length cap ∧ fs.length ≤ cap ∧ (fs = [] ∨ ∃ b off, a = some ⟨b, off, none⟩ ∧
    ∀ i f, fs[i]? = some f → w.cell? ⟨b, off + i * 2, none⟩ = some (.int .i64 f.n) ∧ w.cell? ⟨b, off + i * 2 + 1, none⟩ = some (.int .i64 f.d))
theorem FracsAt.below {w w1 : World} {v : Value} {fs : List Fr} (h : FracsAt w v fs) (hb : Below w.heap.size w w1) : FracsAt w1 v fs := by
  obtain ⟨a, cap, e, hl, h⟩ := h
  refine ⟨a, cap, e, hl, h.imp id ?_⟩
  rintro ⟨b, off, ea, hc⟩
  exact ⟨b, off, ea, fun i f hf => let ⟨h1, h2⟩ := hc i f hf; ⟨by rw [hb.cell (lt_of_cell h1)]; exact h1, by rw [hb.cell (lt_of_cell h2)]; exact h2⟩⟩
def KpB (n₀ Bs : Nat) (W W' : World) : Prop := Below n₀ W W' ∧ W'.cell? ⟨Bs, 0, none⟩ = W.cell? ⟨Bs, 0, none⟩
theorem KpB.t {n₀ Bs : Nat} {A B C : World} (h : KpB n₀ Bs A B) (k : KpB n₀ Bs B C) : KpB n₀ Bs A C := ⟨h.1.trans k.1, k.2.trans h.2⟩
theorem KpB.b {n₀ Bs : Nat} {w : World} (hn : n₀ ≤ w.heap.size) (hBs : Bs < w.heap.size) (W : World) (l : Nat) (o o' : Obj) (hl : w.heap.size ≤ l) (h : W.heap[l]? = some o) (h1 : o.isCells = false) (h2 : o.isWalk = false) : KpB n₀ Bs W (W.putObj l o') :=
  ⟨belowK_b hn W l o o' hl h h1 h2, World.cell?_of_block (World.putObj_heap_other (by show Bs ≠ l; omega))⟩
def upto {α : Type} (f : Nat → α) (k : Nat) : List α := (List.range k).map f
theorem upto_succ {α : Type} (f : Nat → α) (k : Nat) : upto f (k + 1) = upto f k ++ [f k] := by simp [upto, List.range_succ]
theorem upto_length {α : Type} (f : Nat → α) (k : Nat) : (upto f k).length = k := by simp [upto]
def bk (fs : List Fr) (t : Nat) : Nat × Fr := (fs.length - 1 - t, (fs[fs.length - 1 - t]?).getD Fr.zero)
theorem upto_bk (fs : List Fr) : ((upto (bk fs) fs.length).map (·.2)).reverse = fs := by
  apply List.ext_getElem
  · simp [upto]
  · intro i h1 h2
    simp [upto, bk]
    have : fs.length - 1 - (fs.length - 1 - i) = i := by omega
    rw [this]; simp [h2]
set_option maxRecDepth 100000 in
set_option maxHeartbeats 2000000 in
theorem backward1_in (F : Fence) (n : Nat) (h8 : F.fn 107) (hro : F.round = none) (hn : 1 ≤ n) (l Bs n₀ b off cap : Nat) (fs : List Fr) (hreach : fs.length * 16 ≤ 140737488351232) (hb : b < n₀) (J Jx : List (Nat × Fr) → World → Prop)
    (hY : ∀ pre x W, J pre W → pre.length < fs.length → YieldAt F (n - 1) Try.prog l #[.int .i64 (x.1 : Int), x.2.v] W fun e W' =>
      (e = .returned (.bool true) ∧ J (pre ++ [x]) W' ∧ KpB n₀ Bs W W') ∨ (e = .returned (.bool false) ∧ Jx (pre ++ [x]) W'))
    (W : World) (hBc : W.cell? ⟨Bs, 0, none⟩ = some (.slice (some ⟨b, off, none⟩) fs.length cap))
    (hc : ∀ i f, fs[i]? = some f → W.cell? ⟨b, off + i * 2, none⟩ = some (.int .i64 f.n) ∧ W.cell? ⟨b, off + i * 2 + 1, none⟩ = some (.int .i64 f.d)) (h0 : J [] W) :
    CallsIn F n Try.prog 107 #[.func (.yield l) #[] #[], .pointer (some ⟨Bs, 0, none⟩)] W fun e W' => (∃ v, e = .returned v) ∧
      ((∃ ys, ys = upto (bk fs) fs.length ∧ J ys W') ∨ (∃ pre, (∃ k, k ≤ fs.length ∧ pre = upto (bk fs) k) ∧ Jx pre W')) := by
  refine callsIn_of_wp Try.func107 rfl h8 ?_ hro
  simp only [Try.ntmps107, List.size_toArray, List.length_cons, List.length_nil, Nat.reduceAdd, Nat.reduceSub, Array.replicate_succ, Array.replicate_zero, List.push_toArray, List.append_toArray, List.nil_append, List.cons_append]
  gi_wp2
  gi_loopw [3] (fun i wr => ∃ j : Nat, j ≤ fs.length ∧ i = .int .i64 ((fs.length : Int) - 1 - j) ∧ J (upto (bk fs) j) wr ∧ KpB n₀ Bs W wr)
    (fun i _ => (intOf i + 1).toNat)
  case atStart => exact ⟨0, Nat.zero_le _, by simp, h0, Below.refl _ _, rfl⟩
  case round =>
    obtain ⟨j, hj, rfl, hJs, hnx0⟩ := hrel
    have hnx := hnx0.1
    have hBc' := hnx0.2.trans hBc
    by_cases hlt : j < fs.length
    · obtain ⟨m, hm⟩ : ∃ m, m = fs.length - 1 - j := ⟨_, rfl⟩
      have hml : m < fs.length := by omega
      have hbk : bk fs j = (m, fs[m]) := by simp [bk, ← hm, hml]
      obtain ⟨c1, c2⟩ := hc m fs[m] (List.getElem?_eq_getElem hml)
      have c1' := (hnx.cell (p := ⟨b, off + m * 2, none⟩) hb).trans c1
      have c2' := (hnx.cell (p := ⟨b, off + m * 2 + 1, none⟩) hb).trans c2
      have hi : ((fs.length : Int) - 1 - j) = (m : Int) := by omega
      obtain ⟨fn, tmps, assign, body, hy, hR⟩ := hY _ (m, fs[m]) wr hJs (by rw [upto_length]; exact hlt)
      generalize fs[m] = f at *
      dsimp only [Fr.v] at hy
      rw [hi]
      have Hbk := Lib.hid hbk
      have Hm := Lib.hid hm
      clear hbk hm hi c1 c2 hc hBc
      gi_wp2
      refine hR.mono ?_
      rintro e W3 (⟨rfl, hJ3, hk3⟩ | ⟨rfl, hJx3⟩)
      · gi_wp2
        go_roundw
        case rel => exact ⟨j + 1, by omega, by have := Hm.out; congr 1 <;> omega, by rw [upto_succ, Hbk.out]; exact hJ3, hnx0.t hk3⟩
        case measure => (have := Hm.out; simp [intOf]; try omega)
      · gi_wp2
        refine bodyPost_ret (results_none rfl _ _ _) rfl ?_
        exact ⟨⟨_, rfl⟩, .inr ⟨_, ⟨j + 1, by omega, by rw [upto_succ, Hbk.out]⟩, hJx3⟩⟩
    · obtain rfl : j = fs.length := by omega
      have hi : ((fs.length : Int) - 1 - fs.length) = -1 := by omega
      rw [hi]
      clear hi hc hBc
      gi_wp2
      go_end0
      exact ⟨⟨_, rfl⟩, .inl ⟨_, rfl, hJs⟩⟩
set_option maxRecDepth 100000 in
set_option maxHeartbeats 1000000 in
theorem backward1_nil_in (F : Fence) (n : Nat) (h8 : F.fn 107) (hro : F.round = none) (l Bs : Nat) (a : Option Addr) (cap : Nat) (J : List (Nat × Fr) → World → Prop) (W : World) (hBs : W.cell? ⟨Bs, 0, none⟩ = some (.slice a 0 cap)) (h0 : J [] W) :
    CallsIn F n Try.prog 107 #[.func (.yield l) #[] #[], .pointer (some ⟨Bs, 0, none⟩)] W fun e W' => (∃ v, e = .returned v) ∧ J [] W' := by
  refine callsIn_of_wp Try.func107 rfl h8 ?_ hro
  simp only [Try.ntmps107, List.size_toArray, List.length_cons, List.length_nil, Nat.reduceAdd, Nat.reduceSub, Array.replicate_succ, Array.replicate_zero, List.push_toArray, List.append_toArray, List.nil_append, List.cons_append]
  gi_wp2
  gi_loopw [3] (fun i wr => i = .int .i64 (-1) ∧ J [] wr) (fun _ _ => 0)
  case atStart => exact ⟨by simp, h0⟩
  case round =>
    obtain ⟨rfl, hJs⟩ := hrel
    gi_wp2
    go_end0
    exact ⟨⟨_, rfl⟩, hJs⟩
theorem backward_in (F : Fence) (n : Nat) (h5 : F.fn 101) (hro : F.round = none) (a : Option Addr) (len cap : Nat) (w : World) :
    CallsIn F n Try.prog 101 #[.slice a len cap] w fun e w' => e = .returned (.func (.func 107) #[] #[.pointer (some ⟨w.heap.size, 0, none⟩)]) ∧ w' = w.alloc (.cells #[.slice a len cap] 31) := by
  refine callsIn_of_wp Try.func101 rfl h5 ?_ hro
  simp only [Try.ntmps101, List.size_toArray, List.length_cons, List.length_nil, Nat.reduceAdd, Nat.reduceSub, Array.replicate_succ, Array.replicate_zero, List.push_toArray, List.append_toArray, List.nil_append, List.cons_append]
  gi_wp2
  go_ret
  exact ⟨rfl, rfl⟩
theorem backward_stops (F : Fence) (n : Nat) (h8 : F.fn 107) (hro : F.round = none) (hn : 1 ≤ n) (Bs n₀ : Nat) (sv : Value) (fs : List Fr) (hreach : fs.length * 16 ≤ 140737488351232) (w : World) (hBs : Bs < w.heap.size)
    (hc : w.cell? ⟨Bs, 0, none⟩ = some sv) (hI : FracsAt w sv fs) (hlow : ∀ b off len cap, sv = .slice (some ⟨b, off, none⟩) len cap → 0 < len → b < n₀) :
    SeqStopsK F n Try.prog 107 #[.pointer (some ⟨Bs, 0, none⟩)] (fun x : Nat × Fr => #[.int .i64 (x.1 : Int), x.2.v]) (KpB n₀ Bs) (fun ys => ys = upto (bk fs) fs.length)
      (fun pre => ∃ k, k ≤ fs.length ∧ pre = upto (bk fs) k) fs.length w := fun l J Jx W hW _ _ hY h0 => by
  have hc' := (hW.cell (p := ⟨Bs, 0, none⟩) hBs).trans hc
  obtain ⟨a, cap, rfl, hle, h⟩ := hI.below hW
  by_cases hz : fs = []
  · subst hz
    exact (backward1_nil_in F n h8 hro l Bs a cap J W hc' h0).mono fun e W' ⟨he, hj⟩ => ⟨he, .inl ⟨_, rfl, hj⟩⟩
  · obtain ⟨b, off, rfl, hcs⟩ := h.resolve_left hz
    have hpos : 0 < fs.length := List.length_pos_iff.2 hz
    exact backward1_in F n h8 hro hn l Bs n₀ b off cap fs hreach (hlow b off _ _ rfl hpos) J Jx hY W hc' hcs h0
def ChargeL (B : Nat) (w : World) : Option Addr → List Fr → Prop
  | p, [] => p = none
  | p, f :: r => ∃ b q, p = some ⟨b, 0, none⟩ ∧ B ≤ b ∧ w.cell? ⟨b, 0, none⟩ = some (.int .i64 f.n) ∧ w.cell? ⟨b, 1, none⟩ = some (.int .i64 f.d) ∧ w.cell? ⟨b, 2, none⟩ = some (.pointer q) ∧ ChargeL B w q r
theorem ChargeL.mono {B : Nat} {w w' : World} (hc : ∀ a v, w.cell? a = some v → B ≤ a.block → w'.cell? a = some v) : ∀ {fs : List Fr} {p : Option Addr}, ChargeL B w p fs → ChargeL B w' p fs
  | [], _, h => h
  | _ :: _, _, ⟨b, q, h1, h2, h3, h4, h5, h6⟩ => ⟨b, q, h1, h2, hc _ _ h3 h2, hc _ _ h4 h2, hc _ _ h5 h2, ChargeL.mono hc h6⟩
theorem ChargeL.low {B B' : Nat} {w : World} (hB : B' ≤ B) : ∀ {fs : List Fr} {p : Option Addr}, ChargeL B w p fs → ChargeL B' w p fs
  | [], _, h => h
  | _ :: _, _, ⟨b, q, h1, h2, h3, h4, h5, h6⟩ => ⟨b, q, h1, Nat.le_trans hB h2, h3, h4, h5, h6.low hB⟩
set_option maxRecDepth 100000 in
set_option maxHeartbeats 2000000 in
theorem chargesOf_in (F : Fence) (n : Nat) (h3 : F.fn 91) (h5 : F.fn 101) (h6 : F.fn 107) (hro : F.round = none) (hn : 3 ≤ n) (a : Option Addr) (cap : Nat) (fs : List Fr) (hreach : fs.length * 16 ≤ 140737488351232) (w : World) (hI : FracsAt w (.slice a fs.length cap) fs) :
    CallsIn F n Try.prog 91 #[.slice a fs.length cap] w fun e w' => ∃ p, e = .returned (.pointer p) ∧ ChargeL w.heap.size w' p fs ∧ Below w.heap.size w w' := by
  have h1 : 1 ≤ n := by omega
  refine callsIn_of_wp_marks Try.func91 rfl h3 ?_ hro
  simp only [Try.ntmps91, List.size_toArray, List.length_cons, List.length_nil, Nat.reduceAdd, Nat.reduceSub, Array.replicate_succ, Array.replicate_zero, List.push_toArray, List.append_toArray, List.nil_append, List.cons_append]
  gi_wp2_with (gi_at_call 101; refine (backward_in F (n - 1) h5 hro _ _ _ _).mono ?_; rintro e w' ⟨rfl, rfl⟩)
  have hs := Boxed.new w 117 (.pointer none)
  have hb := Boxed.new (w.alloc (.cells #[.pointer none] 117)) 31 (.slice a fs.length cap)
  rw [World.size_alloc] at hb
  have hI2 : FracsAt ((w.alloc (.cells #[.pointer none] 117)).alloc (.cells #[.slice a fs.length cap] 31)) (.slice a fs.length cap) fs := hI.below (bl_alloc (bl_alloc (bl_refl _) _) _)
  refine wpIn_rangeFunc_ownH hro h1 (gf := 107) (lb := #[.pointer (some ⟨w.heap.size + 1, 0, none⟩)]) rfl h6 (enters_of Try.func107 (by kernel_rfl) rfl)
    (backward_stops F (n - 1) h6 hro (by omega) (w.heap.size + 1) w.heap.size _ fs hreach _ (by simp) hb.cell hI2 ?low) KpB.t (KpB.b (by simp; omega) (by simp)) (Below.refl _ _) (fun _ => rfl)
    (fun pre W => (∃ p, Boxed W w.heap.size 117 (.pointer p) ∧ ChargeL (w.heap.size + 1) W p ((pre.map (·.2)).reverse)) ∧ (Below w.heap.size w W ∧ w.heap.size + 1 < W.heap.size))
    (fun _ _ _ => False)
    ?hI ?hIx ?h0
    (fun x a' W => ∃ Bx, w.heap.size + 1 < Bx ∧ W.cell? ⟨Bx, 0, none⟩ = some (.int .i64 x.2.n) ∧ W.cell? ⟨Bx, 1, none⟩ = some (.int .i64 x.2.d) ∧ a' = { tmps := #[.slice a fs.length cap, undef, .pointer none, .pointer (some ⟨w.heap.size, 0, none⟩), undef, .pointer (some ⟨Bx, 0, none⟩), .slice a fs.length cap, .func (.func 107) #[] #[.pointer (some ⟨w.heap.size + 1, 0, none⟩)], .int .i64 (x.1 : Int), x.2.v, undef, undef, undef, undef, undef], defers := [] })
    ?hAx ?assign ?body ?done ?stop
  case low =>
    rintro b off len cap' e hpos
    obtain ⟨a', cap'', e', hle, h⟩ := hI
    injection e with e1 e2 e3
    injection e' with e1' e2' e3'
    subst e1 e1'
    rcases h with rfl | ⟨b', off', e4, hc⟩
    · simp at e2; omega
    · cases e4
      obtain ⟨f, hf⟩ : ∃ f, fs[0]? = some f := ⟨fs[0]'(by omega), List.getElem?_eq_getElem (by omega)⟩
      have := lt_of_cell (hc 0 f hf).1
      simp at this; omega
  case hI =>
    refine OwnFrom.and (Own.from (fun s A B row hs hg hr => ?_) _) (OwnFrom.and (ownFrom_below (Nat.le_refl _) (by simp; omega)) (fun s A B row hs hg hr => Nat.lt_of_lt_of_le hs hg.size))
    obtain ⟨p, h1, h2⟩ := hs
    refine ⟨p, ?_, h2.mono fun a v h _ => cell_kept h hg hr⟩
    exact Own.from (boxed_own w.heap.size _ (fun _ : Unit => Value.pointer p)) 0 () A B row h1 hg (fun r e => ⟨Nat.zero_le _, hr r e⟩)
  case hIx => exact fun _ _ _ _ _ hs _ _ => hs
  case h0 => exact ⟨⟨none, hs.alloc _, rfl⟩, bl_alloc (bl_alloc (bl_refl _) _) _, by simp⟩
  case hAx =>
    rintro x a' _ A B row ⟨Bx, h1, h2, h3, h4⟩ hg hr
    exact ⟨Bx, h1, cell_kept h2 hg (fun r e => (hr r e).2), cell_kept h3 hg (fun r e => (hr r e).2), h4⟩
  case assign =>
    rintro l pre ⟨i, fn, fd⟩ W K ⟨⟨p, hp, hL⟩, hB, hsz⟩ hK
    simp only [Fr.v]
    gi_wp2
    refine hK _ _ ((KeepsOthers.alloc _ _).from _) ⟨(Below.refl _ W).alloc (by omega) _, World.cell?_alloc_lt _ _ _ (by show w.heap.size + 1 < _; omega)⟩ ⟨⟨p, hp.alloc _, hL.mono fun a v h hB' => ?_⟩, bl_alloc hB _, by simp; omega⟩ ⟨W.heap.size, hsz, ?_, ?_, rfl⟩
    · rw [World.cell?_alloc_lt _ _ _ (lt_of_cell h)]; exact h
    · go_simp
    · go_simp
  case body =>
    rintro l pre ⟨i, fn, fd⟩ a' W hl ⟨r, hr⟩ ⟨⟨p, hp, hL⟩, hB, hsz⟩ ⟨Bx, hBx, hx1, hx2, rfl⟩ hlt
    have hpc := hp.cell
    have hpf := hp.frozen
    have hwl := hp.lt
    simp only [Fr.v]
    gi_wp2
    have hsw : ∀ a v, (W.setCell a v).heap.size = W.heap.size := fun a v => by simp [World.setCell]
    refine ⟨((KeepsOthers.setCell _ _ _).trans (KeepsOthers.alloc _ _)).from _, ⟨((Below.refl w.heap.size W).setCell (p := ⟨w.heap.size, 0, none⟩) (Nat.le_refl _) _).alloc (by rw [hsw]; omega) _, ?_⟩, ⟨_, (hp.set _).alloc _, ?_⟩, bl_alloc (bl_set hB (Nat.le_refl _) _) _, by rw [World.size_alloc, hsw]; omega⟩
    · rw [World.cell?_alloc_lt _ _ _ (by rw [hsw]; show w.heap.size + 1 < _; omega), World.cell?_setCell_other _ _ _ _ (by simp)]
    · simp only [List.map_append, List.map_cons, List.map_nil, List.reverse_append, List.reverse_cons, List.reverse_nil, List.nil_append, List.singleton_append]
      refine ⟨W.heap.size, p, rfl, by omega, ?_, ?_, ?_, hL.mono fun a v h hB' => ?_⟩
      · rw [World.cell?_alloc_at _ _ _ _ (hsw _ _).symm]; rfl
      · rw [World.cell?_alloc_at _ _ _ _ (hsw _ _).symm]; rfl
      · rw [World.cell?_alloc_at _ _ _ _ (hsw _ _).symm]; rfl
      · rw [World.cell?_alloc_lt _ _ _ (by rw [hsw]; exact lt_of_cell h), World.cell?_setCell_other _ _ _ _ (by intro e; rw [← e] at hB'; simp at hB'; omega)]; exact h
  case done =>
    rintro D ys W hD rfl ⟨⟨p, hp, hL⟩, hB, hsz⟩ hK
    have hpc := hp.cell
    have hup := upto_bk fs
    rw [hup] at hL
    clear hup
    gi_wp2
    refine ⟨by simp, .inl ⟨_, _, rfl, run_takeDeferred hK, ?_⟩⟩
    refine ⟨_, results_tmp rfl _ _ _, p, rfl, ?_, ?_⟩
    · exact (hL.mono fun a v h _ => cell_kept h (grownBy_putObj' _ D (.deferred none)) (fun r e => by cases e; exact ⟨_, hK, rfl⟩)).low (by omega)
    · exact hB.trans (belowK_b (w := w) (Nat.le_refl _) W D _ _ (by simp at hD; omega) hK rfl rfl)
  case stop => exact fun _ _ _ _ _ _ h _ => h.elim
theorem chargesOf_c (v : Value) (fs : List Fr) (hreach : fs.length * 16 ≤ 140737488351232) (w : World) (hI : FracsAt w v fs) :
    Calls Try.prog 91 #[v] w fun e w' => ∃ p, e = .returned (.pointer p) ∧ ChargeL w.heap.size w' p fs ∧ Below w.heap.size w w' := by
  obtain ⟨a, cap, rfl, h⟩ := hI
  exact callsIn_wide.1 (chargesOf_in Fence.wide 3 trivial trivial trivial rfl (Nat.le_refl _) a cap fs hreach w ⟨a, cap, rfl, h⟩)
end Go.Proofs.Ytnffoddeppimkaa
namespace Go.Proofs.Ytnffoddeppimkaa
open Go.RowKit
set_option linter.unusedVariables false
set_option linter.unusedSimpArgs false
def lsum : Fr → List Fr → Fr × Bool
  | acc, [] => (acc, true)
  | acc, f :: r => if (fsum acc f).2 then lsum (fsum acc f).1 r else (Fr.zero, false)
theorem fsum_ok {a b : Fr} (h : (fsum a b).2 = true) : (fsum a b).1.ok = true := by
  unfold fsum at h ⊢
  split at h
  · rename_i hh
    rw [if_pos hh]
    simp only [redB] at h
    simp only [Fr.ok, redN, redD, h, if_true]
  · cases h
theorem lsum_ok : ∀ {l : List Fr} {acc : Fr}, acc.ok = true → (lsum acc l).2 = true → (lsum acc l).1.ok = true
  | [], _, h, _ => h
  | f :: r, acc, h, hs => by
    unfold lsum at hs ⊢
    split at hs
    · rename_i hh; rw [if_pos hh]; exact lsum_ok (fsum_ok hh) hs
    · cases hs
set_option maxHeartbeats 1000000 in
theorem l32Sum_c (v : Value) (fs : List Fr) (w : World) (hI : FracsAt w v fs) (hn : fs.length ≤ 2000000) :
    Calls Try.prog 64 #[v] w fun e w' => e = .returned (.tuple #[(lsum ⟨0, 1⟩ fs).1.v, .bool (lsum ⟨0, 1⟩ fs).2]) ∧ Below w.heap.size w w' := by
  obtain ⟨a, cap, rfl, hcap, hcs⟩ := hI
  go_enter Try.func64, Try.ntmps64
  go_wp2_with fail
  go_loopg [5, 6, 7] (fs.length + 1) (fun m i p q wr => ∃ (k : Nat) (acc : Fr), k + m = fs.length + 1 ∧ k ≤ fs.length ∧ i = .int .i64 k ∧ Below w.heap.size w wr ∧ w.heap.size + 1 < wr.heap.size ∧
    Locals wr [(⟨w.heap.size, 0, none⟩, .int .i64 0), (⟨w.heap.size, 1, none⟩, .int .i64 0), (⟨w.heap.size + 1, 0, none⟩, .int .i64 acc.n), (⟨w.heap.size + 1, 1, none⟩, .int .i64 acc.d)] ∧ lsum acc (fs.drop k) = lsum ⟨0, 1⟩ fs)
  case atStart => exact ⟨0, ⟨0, 1⟩, by omega, by omega, rfl, (by repeat' (first | with_reducible exact bl_refl _ | with_reducible apply bl_alloc | with_reducible apply bl_drewN | with_reducible apply bl_drew | with_reducible apply bl_set | with_reducible refine bl_call (by assumption) ?_ | (simp; done) | (simp; omega) | omega)), by simp, by (simp only [Locals]; repeat' (first | exact trivial | apply And.intro) <;> go_simp), rfl⟩
  case round =>
    obtain ⟨k, acc, hm, hk, rfl, hB, hz, ⟨⟨c0, f0⟩, ⟨c1, f1⟩, ⟨c2, f2⟩, ⟨c3, f3⟩, -⟩, hl⟩ := hrel
    have Hl := Lib.hid hl
    clear hl
    have hz0 : w.heap.size < wr.heap.size := by omega
    by_cases hlt : k < fs.length
    · obtain ⟨b, off, rfl, hcs'⟩ := hcs.resolve_left (by intro e; subst e; simp at hlt)
      obtain ⟨e1, e2⟩ := hcs' k fs[k] (List.getElem?_eq_getElem hlt)
      have hd : fs.drop k = fs[k] :: fs.drop (k + 1) := List.drop_eq_getElem_cons hlt
      have Hd := Lib.hid hd
      clear hd hcs hcs'
      generalize fs[k] = f at *
      have hbl := lt_of_cell e1
      simp only at hbl
      have g1 := (hB.cell (p := ⟨b, off + k * 2, none⟩) hbl).trans e1
      have g2 := (hB.cell (p := ⟨b, off + k * 2 + 1, none⟩) hbl).trans e2
      clear e1 e2
      have hki : (k : Int) < fs.length := by omega
      have hsz := hB.size
      have hn1 : ¬ wr.heap.size = w.heap.size + 1 := by omega
      have hn2 : ¬ wr.heap.size = w.heap.size := by omega
      have hn3 : ¬ wr.heap.size = b := by omega
      cases hs : (fsum acc f).2
      · have Hs := Lib.hid hs
        clear hs
        go_wp2_with fail
        go_region_held3 (fun w' => w'.cell? ⟨w.heap.size + 1, 0, none⟩ = some (.int .i64 acc.n) ∧ w'.cell? ⟨w.heap.size + 1, 1, none⟩ = some (.int .i64 acc.d) ∧ w'.cell? ⟨b, off + k * 2, none⟩ = some (.int .i64 f.n) ∧ w'.cell? ⟨b, off + k * 2 + 1, none⟩ = some (.int .i64 f.d)) (go_keep)
          (first | (go_at_call 78; refine (sFracSum_c acc f _).mono ?_; rintro e w1 ⟨rfl, hb1⟩; simp only [Fr.v, Hs.out]; (first | (have hzw1_0 : w.heap.size < w1.heap.size := (by have hzz := hb1.size; (try simp at hzz); omega); have hzw1_1 : w.heap.size + 1 < w1.heap.size := (by have hzz := hb1.size; (try simp at hzz); omega); have hzw1_2 : b < w1.heap.size := (by have hzz := hb1.size; (try simp at hzz); omega); have hzw1_3 : wr.heap.size < w1.heap.size := (by have hzz := hb1.size; (try simp at hzz); omega); have Lw1 := Locals.call hb1 (L := [(⟨w.heap.size, 0, none⟩, .int .i64 0), (⟨w.heap.size, 1, none⟩, .int .i64 0), (⟨w.heap.size + 1, 0, none⟩, .int .i64 acc.n), (⟨w.heap.size + 1, 1, none⟩, .int .i64 acc.d), (⟨wr.heap.size, 0, none⟩, .int .i64 0), (⟨wr.heap.size, 1, none⟩, .int .i64 0)]) (by simp only [Locals]; repeat' (first | exact trivial | apply And.intro) <;> go_simp); obtain ⟨⟨cw1_0, fw1_0⟩, ⟨cw1_1, fw1_1⟩, ⟨cw1_2, fw1_2⟩, ⟨cw1_3, fw1_3⟩, ⟨cw1_4, fw1_4⟩, ⟨cw1_5, fw1_5⟩, -⟩ := Lw1; have Kw1 := CellsL.call hb1 (L := [(⟨b, off + k * 2, none⟩, .int .i64 f.n), (⟨b, off + k * 2 + 1, none⟩, .int .i64 f.d)]) (by simp only [CellsL]; repeat' (first | exact trivial | apply And.intro) <;> go_simp); obtain ⟨dw1_0, dw1_1, -⟩ := Kw1) | (have hzw1_0 : w.heap.size < w1.heap.size := (by have hzz := hb1.size; (try simp at hzz); omega); have hzw1_1 : w.heap.size + 1 < w1.heap.size := (by have hzz := hb1.size; (try simp at hzz); omega); have hzw1_2 : b < w1.heap.size := (by have hzz := hb1.size; (try simp at hzz); omega); have Lw1 := Locals.call hb1 (L := [(⟨w.heap.size, 0, none⟩, .int .i64 0), (⟨w.heap.size, 1, none⟩, .int .i64 0), (⟨w.heap.size + 1, 0, none⟩, .int .i64 acc.n), (⟨w.heap.size + 1, 1, none⟩, .int .i64 acc.d)]) (by simp only [Locals]; repeat' (first | exact trivial | apply And.intro) <;> go_simp); obtain ⟨⟨cw1_0, fw1_0⟩, ⟨cw1_1, fw1_1⟩, ⟨cw1_2, fw1_2⟩, ⟨cw1_3, fw1_3⟩, -⟩ := Lw1; have Kw1 := CellsL.call hb1 (L := [(⟨b, off + k * 2, none⟩, .int .i64 f.n), (⟨b, off + k * 2 + 1, none⟩, .int .i64 f.d)]) (by simp only [CellsL]; repeat' (first | exact trivial | apply And.intro) <;> go_simp); obtain ⟨dw1_0, dw1_1, -⟩ := Kw1))))
        all_goals
          go_wp2_with fail
          have hr : lsum ⟨0, 1⟩ fs = (Fr.zero, false) := by rw [← Hl.out, Hd.out]; unfold lsum; rw [Hs.out]; rfl
          rw [hr]
          refine bodyPost_ret (v := .tuple #[.agg #[.int .i64 0, .int .i64 0], .bool false]) (by simp only [results, Try.results64]; go_simp) rfl ⟨rfl, (by repeat' (first | with_reducible exact bl_refl _ | with_reducible apply bl_alloc | with_reducible apply bl_drewN | with_reducible apply bl_drew | with_reducible apply bl_set | with_reducible refine bl_call (by assumption) ?_ | (simp; done) | (simp; omega) | omega))⟩
      · have Hs := Lib.hid hs
        clear hs
        go_wp2_with fail
        go_region_held3 (fun w' => w'.cell? ⟨w.heap.size + 1, 0, none⟩ = some (.int .i64 acc.n) ∧ w'.cell? ⟨w.heap.size + 1, 1, none⟩ = some (.int .i64 acc.d) ∧ w'.cell? ⟨b, off + k * 2, none⟩ = some (.int .i64 f.n) ∧ w'.cell? ⟨b, off + k * 2 + 1, none⟩ = some (.int .i64 f.d)) (go_keep)
          (first | (go_at_call 78; refine (sFracSum_c acc f _).mono ?_; rintro e w1 ⟨rfl, hb1⟩; simp only [Fr.v, Hs.out]; (first | (have hzw1_0 : w.heap.size < w1.heap.size := (by have hzz := hb1.size; (try simp at hzz); omega); have hzw1_1 : w.heap.size + 1 < w1.heap.size := (by have hzz := hb1.size; (try simp at hzz); omega); have hzw1_2 : b < w1.heap.size := (by have hzz := hb1.size; (try simp at hzz); omega); have hzw1_3 : wr.heap.size < w1.heap.size := (by have hzz := hb1.size; (try simp at hzz); omega); have Lw1 := Locals.call hb1 (L := [(⟨w.heap.size, 0, none⟩, .int .i64 0), (⟨w.heap.size, 1, none⟩, .int .i64 0), (⟨w.heap.size + 1, 0, none⟩, .int .i64 acc.n), (⟨w.heap.size + 1, 1, none⟩, .int .i64 acc.d), (⟨wr.heap.size, 0, none⟩, .int .i64 0), (⟨wr.heap.size, 1, none⟩, .int .i64 0)]) (by simp only [Locals]; repeat' (first | exact trivial | apply And.intro) <;> go_simp); obtain ⟨⟨cw1_0, fw1_0⟩, ⟨cw1_1, fw1_1⟩, ⟨cw1_2, fw1_2⟩, ⟨cw1_3, fw1_3⟩, ⟨cw1_4, fw1_4⟩, ⟨cw1_5, fw1_5⟩, -⟩ := Lw1; have Kw1 := CellsL.call hb1 (L := [(⟨b, off + k * 2, none⟩, .int .i64 f.n), (⟨b, off + k * 2 + 1, none⟩, .int .i64 f.d)]) (by simp only [CellsL]; repeat' (first | exact trivial | apply And.intro) <;> go_simp); obtain ⟨dw1_0, dw1_1, -⟩ := Kw1) | (have hzw1_0 : w.heap.size < w1.heap.size := (by have hzz := hb1.size; (try simp at hzz); omega); have hzw1_1 : w.heap.size + 1 < w1.heap.size := (by have hzz := hb1.size; (try simp at hzz); omega); have hzw1_2 : b < w1.heap.size := (by have hzz := hb1.size; (try simp at hzz); omega); have Lw1 := Locals.call hb1 (L := [(⟨w.heap.size, 0, none⟩, .int .i64 0), (⟨w.heap.size, 1, none⟩, .int .i64 0), (⟨w.heap.size + 1, 0, none⟩, .int .i64 acc.n), (⟨w.heap.size + 1, 1, none⟩, .int .i64 acc.d)]) (by simp only [Locals]; repeat' (first | exact trivial | apply And.intro) <;> go_simp); obtain ⟨⟨cw1_0, fw1_0⟩, ⟨cw1_1, fw1_1⟩, ⟨cw1_2, fw1_2⟩, ⟨cw1_3, fw1_3⟩, -⟩ := Lw1; have Kw1 := CellsL.call hb1 (L := [(⟨b, off + k * 2, none⟩, .int .i64 f.n), (⟨b, off + k * 2 + 1, none⟩, .int .i64 f.d)]) (by simp only [CellsL]; repeat' (first | exact trivial | apply And.intro) <;> go_simp); obtain ⟨dw1_0, dw1_1, -⟩ := Kw1))))
        all_goals
          go_wp2_with fail
          go_roundg (gk - 1)
          case measure => omega
          case rel => exact ⟨k + 1, (fsum acc f).1, by omega, by omega, by go_num, (by repeat' (first | with_reducible exact bl_refl _ | with_reducible apply bl_alloc | with_reducible apply bl_drewN | with_reducible apply bl_drew | with_reducible apply bl_set | with_reducible refine bl_call (by assumption) ?_ | (simp; done) | (simp; omega) | omega)), by simp; omega, by (simp only [Locals]; repeat' (first | exact trivial | apply And.intro) <;> go_simp), by rw [← Hl.out, Hd.out]; (conv => rhs; unfold lsum; rw [Hs.out]); simp⟩
    · obtain rfl : k = fs.length := by omega
      have hr : lsum ⟨0, 1⟩ fs = (acc, true) := by rw [← Hl.out]; simp [lsum]
      go_wp2_with fail
      rw [hr]
      refine bodyPost_ret (v := .tuple #[.agg #[.int .i64 acc.n, .int .i64 acc.d], .bool true]) (by simp only [results, Try.results64]; go_simp) rfl ⟨rfl, (by repeat' (first | with_reducible exact bl_refl _ | with_reducible apply bl_alloc | with_reducible apply bl_drewN | with_reducible apply bl_drew | with_reducible apply bl_set | with_reducible refine bl_call (by assumption) ?_ | (simp; done) | (simp; omega) | omega))⟩
end Go.Proofs.Ytnffoddeppimkaa
namespace Go.Proofs.Ytnffoddeppimkaa
open Go.RowKit
set_option linter.unusedVariables false
set_option linter.unusedSimpArgs false
def ledOk (cap : Fr) (paid : List Fr) : Bool :=
  cap.ok && decide (paid.length ≤ 8) && (lsum ⟨0, 1⟩ paid).2 && decide (cmpI ((lsum ⟨0, 1⟩ paid).1.n * cap.d) (cap.n * (lsum ⟨0, 1⟩ paid).1.d) ≤ 0)
theorem one_ok : Fr.ok ⟨0, 1⟩ = true := by decide +kernel
set_option maxHeartbeats 1000000 in
theorem sLedgerOk_c (cap : Fr) (v : Value) (fs : List Fr) (w : World) (hI : FracsAt w v fs) (hn : fs.length ≤ 2000000) :
    Calls Try.prog 40 #[.agg #[.int .i64 cap.n, .int .i64 cap.d, v]] w fun e w' => e = .returned (.bool (ledOk cap fs)) ∧ Below w.heap.size w w' := by
  have hso : (lsum ⟨0, 1⟩ fs).2 = true → (lsum ⟨0, 1⟩ fs).1.ok = true := lsum_ok one_ok
  obtain ⟨cn, cd⟩ := cap
  obtain ⟨a, cp, rfl, hcap, hcs⟩ := id hI
  obtain ⟨⟨⟨sn, sd⟩, sb⟩, hs⟩ : ∃ x, lsum ⟨0, 1⟩ fs = x := ⟨_, rfl⟩
  rw [hs] at hso
  unfold ledOk
  rw [hs]
  have Hs := Lib.hid hs
  have HI := Lib.hid hI
  have Hso := Lib.hid hso
  have hbx := hI.below (bl_alloc (bl_refl w) (.cells #[.int .i64 cn, .int .i64 cd, .slice a fs.length cp] 33))
  have Hbx := Lib.hid hbx
  clear hs hI hso hcs hbx
  have hn8 : (decide (fs.length ≤ 8) = true ∨ decide (fs.length ≤ 8) = false) := by cases decide (fs.length ≤ 8) <;> simp
  cases hok : Fr.ok ⟨cn, cd⟩
  · have Hok : Hid (fracOkB cn cd = false) := hok
    clear hok hn8
    go_enter Try.func40, Try.ntmps40
    go_wp2_with fail
    refine (l32Sum_c _ _ _ Hbx.out hn).mono ?_; rintro e w1 ⟨rfl, hb1⟩; rw [Hs.out]; simp only [Fr.v]; have hzw1_0 : w.heap.size < w1.heap.size := (by have hzz := hb1.size; (try simp at hzz); omega); have Lw1 := Locals.call hb1 (L := [(⟨w.heap.size, 0, none⟩, .int .i64 cn), (⟨w.heap.size, 1, none⟩, .int .i64 cd), (⟨w.heap.size, 2, none⟩, .slice a fs.length cp)]) (by simp only [Locals]; repeat' (first | exact trivial | apply And.intro) <;> go_simp); obtain ⟨⟨cw1_0, fw1_0⟩, ⟨cw1_1, fw1_1⟩, ⟨cw1_2, fw1_2⟩, -⟩ := Lw1
    go_wp2_with fail
    refine (sFracOk_c _ _ _).mono ?_; rintro e w2 ⟨rfl, hb2⟩; rw [Hok.out]; have hzw2_0 : w.heap.size < w2.heap.size := (by have hzz := hb2.size; (try simp at hzz); omega); have hzw2_1 : w1.heap.size < w2.heap.size := (by have hzz := hb2.size; (try simp at hzz); omega); have Lw2 := Locals.call hb2 (L := [(⟨w.heap.size, 0, none⟩, .int .i64 cn), (⟨w.heap.size, 1, none⟩, .int .i64 cd), (⟨w.heap.size, 2, none⟩, .slice a fs.length cp), (⟨w1.heap.size, 0, none⟩, .int .i64 sn), (⟨w1.heap.size, 1, none⟩, .int .i64 sd)]) (by simp only [Locals]; repeat' (first | exact trivial | apply And.intro) <;> go_simp); obtain ⟨⟨cw2_0, fw2_0⟩, ⟨cw2_1, fw2_1⟩, ⟨cw2_2, fw2_2⟩, ⟨cw2_3, fw2_3⟩, ⟨cw2_4, fw2_4⟩, -⟩ := Lw2
    go_wp2_with fail
    go_ret
    exact ⟨ret_b (by simp), (by repeat' (first | with_reducible exact bl_refl _ | with_reducible apply bl_alloc | with_reducible apply bl_drewN | with_reducible apply bl_drew | with_reducible apply bl_set | with_reducible refine bl_call (by assumption) ?_ | (simp; done) | (simp; omega) | omega))⟩
  · have Hok : Hid (fracOkB cn cd = true) := hok
    have Hoc := Lib.hid hok
    clear hok
    rcases hn8 with h8 | h8
    · have h8' : fs.length ≤ 8 := by simpa using h8
      have H8 := Lib.hid h8
      clear h8
      cases sb
      · go_enter Try.func40, Try.ntmps40
        go_wp2_with fail
        refine (l32Sum_c _ _ _ Hbx.out hn).mono ?_; rintro e w1 ⟨rfl, hb1⟩; rw [Hs.out]; simp only [Fr.v]; have hzw1_0 : w.heap.size < w1.heap.size := (by have hzz := hb1.size; (try simp at hzz); omega); have Lw1 := Locals.call hb1 (L := [(⟨w.heap.size, 0, none⟩, .int .i64 cn), (⟨w.heap.size, 1, none⟩, .int .i64 cd), (⟨w.heap.size, 2, none⟩, .slice a fs.length cp)]) (by simp only [Locals]; repeat' (first | exact trivial | apply And.intro) <;> go_simp); obtain ⟨⟨cw1_0, fw1_0⟩, ⟨cw1_1, fw1_1⟩, ⟨cw1_2, fw1_2⟩, -⟩ := Lw1
        go_wp2_with fail
        refine (sFracOk_c _ _ _).mono ?_; rintro e w2 ⟨rfl, hb2⟩; rw [Hok.out]; have hzw2_0 : w.heap.size < w2.heap.size := (by have hzz := hb2.size; (try simp at hzz); omega); have hzw2_1 : w1.heap.size < w2.heap.size := (by have hzz := hb2.size; (try simp at hzz); omega); have Lw2 := Locals.call hb2 (L := [(⟨w.heap.size, 0, none⟩, .int .i64 cn), (⟨w.heap.size, 1, none⟩, .int .i64 cd), (⟨w.heap.size, 2, none⟩, .slice a fs.length cp), (⟨w1.heap.size, 0, none⟩, .int .i64 sn), (⟨w1.heap.size, 1, none⟩, .int .i64 sd)]) (by simp only [Locals]; repeat' (first | exact trivial | apply And.intro) <;> go_simp); obtain ⟨⟨cw2_0, fw2_0⟩, ⟨cw2_1, fw2_1⟩, ⟨cw2_2, fw2_2⟩, ⟨cw2_3, fw2_3⟩, ⟨cw2_4, fw2_4⟩, -⟩ := Lw2
        go_wp2_with fail
        go_ret
        exact ⟨ret_b (by simp), (by repeat' (first | with_reducible exact bl_refl _ | with_reducible apply bl_alloc | with_reducible apply bl_drewN | with_reducible apply bl_drew | with_reducible apply bl_set | with_reducible refine bl_call (by assumption) ?_ | (simp; done) | (simp; omega) | omega))⟩
      · go_enter Try.func40, Try.ntmps40
        go_wp2_with fail
        refine (l32Sum_c _ _ _ Hbx.out hn).mono ?_; rintro e w1 ⟨rfl, hb1⟩; rw [Hs.out]; simp only [Fr.v]; have hzw1_0 : w.heap.size < w1.heap.size := (by have hzz := hb1.size; (try simp at hzz); omega); have Lw1 := Locals.call hb1 (L := [(⟨w.heap.size, 0, none⟩, .int .i64 cn), (⟨w.heap.size, 1, none⟩, .int .i64 cd), (⟨w.heap.size, 2, none⟩, .slice a fs.length cp)]) (by simp only [Locals]; repeat' (first | exact trivial | apply And.intro) <;> go_simp); obtain ⟨⟨cw1_0, fw1_0⟩, ⟨cw1_1, fw1_1⟩, ⟨cw1_2, fw1_2⟩, -⟩ := Lw1
        go_wp2_with fail
        refine (sFracOk_c _ _ _).mono ?_; rintro e w2 ⟨rfl, hb2⟩; rw [Hok.out]; have hzw2_0 : w.heap.size < w2.heap.size := (by have hzz := hb2.size; (try simp at hzz); omega); have hzw2_1 : w1.heap.size < w2.heap.size := (by have hzz := hb2.size; (try simp at hzz); omega); have Lw2 := Locals.call hb2 (L := [(⟨w.heap.size, 0, none⟩, .int .i64 cn), (⟨w.heap.size, 1, none⟩, .int .i64 cd), (⟨w.heap.size, 2, none⟩, .slice a fs.length cp), (⟨w1.heap.size, 0, none⟩, .int .i64 sn), (⟨w1.heap.size, 1, none⟩, .int .i64 sd)]) (by simp only [Locals]; repeat' (first | exact trivial | apply And.intro) <;> go_simp); obtain ⟨⟨cw2_0, fw2_0⟩, ⟨cw2_1, fw2_1⟩, ⟨cw2_2, fw2_2⟩, ⟨cw2_3, fw2_3⟩, ⟨cw2_4, fw2_4⟩, -⟩ := Lw2
        go_wp2_with fail
        refine (l31Cmp_c ⟨sn, sd⟩ ⟨cn, cd⟩ _ (Hso.out (by trivial)) Hoc.out).mono ?_; rintro e w3 ⟨rfl, hb3⟩
        go_wp2_with fail
        go_ret
        exact ⟨ret_b (by simp [Hoc.out, h8']), (by repeat' (first | with_reducible exact bl_refl _ | with_reducible apply bl_alloc | with_reducible apply bl_drewN | with_reducible apply bl_drew | with_reducible apply bl_set | with_reducible refine bl_call (by assumption) ?_ | (simp; done) | (simp; omega) | omega))⟩
    · have h8' : ¬ fs.length ≤ 8 := by simpa using h8
      have h8i : 8 < (fs.length : Int) := by omega
      clear h8
      go_enter Try.func40, Try.ntmps40
      go_wp2_with fail
      refine (l32Sum_c _ _ _ Hbx.out hn).mono ?_; rintro e w1 ⟨rfl, hb1⟩; rw [Hs.out]; simp only [Fr.v]; have hzw1_0 : w.heap.size < w1.heap.size := (by have hzz := hb1.size; (try simp at hzz); omega); have Lw1 := Locals.call hb1 (L := [(⟨w.heap.size, 0, none⟩, .int .i64 cn), (⟨w.heap.size, 1, none⟩, .int .i64 cd), (⟨w.heap.size, 2, none⟩, .slice a fs.length cp)]) (by simp only [Locals]; repeat' (first | exact trivial | apply And.intro) <;> go_simp); obtain ⟨⟨cw1_0, fw1_0⟩, ⟨cw1_1, fw1_1⟩, ⟨cw1_2, fw1_2⟩, -⟩ := Lw1
      go_wp2_with fail
      refine (sFracOk_c _ _ _).mono ?_; rintro e w2 ⟨rfl, hb2⟩; rw [Hok.out]; have hzw2_0 : w.heap.size < w2.heap.size := (by have hzz := hb2.size; (try simp at hzz); omega); have hzw2_1 : w1.heap.size < w2.heap.size := (by have hzz := hb2.size; (try simp at hzz); omega); have Lw2 := Locals.call hb2 (L := [(⟨w.heap.size, 0, none⟩, .int .i64 cn), (⟨w.heap.size, 1, none⟩, .int .i64 cd), (⟨w.heap.size, 2, none⟩, .slice a fs.length cp), (⟨w1.heap.size, 0, none⟩, .int .i64 sn), (⟨w1.heap.size, 1, none⟩, .int .i64 sd)]) (by simp only [Locals]; repeat' (first | exact trivial | apply And.intro) <;> go_simp); obtain ⟨⟨cw2_0, fw2_0⟩, ⟨cw2_1, fw2_1⟩, ⟨cw2_2, fw2_2⟩, ⟨cw2_3, fw2_3⟩, ⟨cw2_4, fw2_4⟩, -⟩ := Lw2
      go_wp2_with fail
      go_ret
      exact ⟨ret_b (by simp), (by repeat' (first | with_reducible exact bl_refl _ | with_reducible apply bl_alloc | with_reducible apply bl_drewN | with_reducible apply bl_drew | with_reducible apply bl_set | with_reducible refine bl_call (by assumption) ?_ | (simp; done) | (simp; omega) | omega))⟩
theorem ChargeL.below {B : Nat} {w w1 : World} {p : Option Addr} {fs : List Fr} (h : ChargeL B w p fs) (hb : Below w.heap.size w w1) : ChargeL B w1 p fs :=
  h.mono fun a v hc _ => by rw [hb.cell (lt_of_cell hc)]; exact hc
theorem ChargeL.keeps {B : Nat} {w w1 : World} {p : Option Addr} {fs : List Fr} (h : ChargeL B w p fs) (hk : Keeps B w w1) : ChargeL B w1 p fs := h.mono hk
def ledSum (cap : Fr) (paid : List Fr) : Fr := if ledOk cap paid then (lsum ⟨0, 1⟩ paid).1 else Fr.zero
set_option maxHeartbeats 2000000 in
theorem iLedgerSum_c (cap : Fr) (v : Value) (fs : List Fr) (w : World) (hI : FracsAt w v fs) :
    Calls Try.prog 83 #[.agg #[.int .i64 cap.n, .int .i64 cap.d, v]] w fun e w' => e = .returned (.tuple #[(ledSum cap fs).v, .bool (ledOk cap fs)]) ∧ Below w.heap.size w w' := by
  have hso : (lsum ⟨0, 1⟩ fs).2 = true → (lsum ⟨0, 1⟩ fs).1.ok = true := lsum_ok one_ok
  obtain ⟨cn, cd⟩ := cap
  obtain ⟨a, cp, rfl, hcap, hcs⟩ := id hI
  have HI := Lib.hid hI
  have Hso := Lib.hid hso
  clear hI hso hcs
  cases hok : Fr.ok ⟨cn, cd⟩
  · have Hok : Hid (fracOkB cn cd = false) := hok
    have hr : ledOk ⟨cn, cd⟩ fs = false := by unfold ledOk; rw [hok]; simp
    have hr2 : ledSum ⟨cn, cd⟩ fs = Fr.zero := by unfold ledSum; rw [hr]; rfl
    rw [hr, hr2]
    clear hok hr hr2
    go_enter Try.func83, Try.ntmps83
    go_wp2_with fail
    refine (iFracOk_c _ _ _).mono ?_; rintro e w1 ⟨rfl, hb1⟩; rw [Hok.out]; have hzw1_0 : w.heap.size < w1.heap.size := (by have hzz := hb1.size; (try simp at hzz); omega); have hzw1_1 : w.heap.size + 1 < w1.heap.size := (by have hzz := hb1.size; (try simp at hzz); omega); have Lw1 := Locals.call hb1 (L := [(⟨w.heap.size, 0, none⟩, .int .i64 cn), (⟨w.heap.size, 1, none⟩, .int .i64 cd), (⟨w.heap.size, 2, none⟩, .slice a fs.length cp), (⟨w.heap.size + 1, 0, none⟩, .int .i64 0), (⟨w.heap.size + 1, 1, none⟩, .int .i64 0)]) (by simp only [Locals]; repeat' (first | exact trivial | apply And.intro) <;> go_simp); obtain ⟨⟨cw1_0, fw1_0⟩, ⟨cw1_1, fw1_1⟩, ⟨cw1_2, fw1_2⟩, ⟨cw1_3, fw1_3⟩, ⟨cw1_4, fw1_4⟩, -⟩ := Lw1
    go_wp2_with fail
    refine bodyPost_ret (v := .tuple #[.agg #[.int .i64 0, .int .i64 0], .bool false]) (by simp only [results, Try.results83]; go_simp) rfl ⟨rfl, (by repeat' (first | with_reducible exact bl_refl _ | with_reducible apply bl_alloc | with_reducible apply bl_drewN | with_reducible apply bl_drew | with_reducible apply bl_set | with_reducible refine bl_call (by assumption) ?_ | (simp; done) | (simp; omega) | omega))⟩
  · have Hok : Hid (fracOkB cn cd = true) := hok
    have Hoc := Lib.hid hok
    clear hok
    by_cases h8 : fs.length ≤ 8
    · have h8i : (fs.length : Int) ≤ 8 := by omega
      go_enter Try.func83, Try.ntmps83
      go_wp2_with fail
      refine (iFracOk_c _ _ _).mono ?_; rintro e w1 ⟨rfl, hb1⟩; rw [Hok.out]; have hzw1_0 : w.heap.size < w1.heap.size := (by have hzz := hb1.size; (try simp at hzz); omega); have hzw1_1 : w.heap.size + 1 < w1.heap.size := (by have hzz := hb1.size; (try simp at hzz); omega); have Lw1 := Locals.call hb1 (L := [(⟨w.heap.size, 0, none⟩, .int .i64 cn), (⟨w.heap.size, 1, none⟩, .int .i64 cd), (⟨w.heap.size, 2, none⟩, .slice a fs.length cp), (⟨w.heap.size + 1, 0, none⟩, .int .i64 0), (⟨w.heap.size + 1, 1, none⟩, .int .i64 0)]) (by simp only [Locals]; repeat' (first | exact trivial | apply And.intro) <;> go_simp); obtain ⟨⟨cw1_0, fw1_0⟩, ⟨cw1_1, fw1_1⟩, ⟨cw1_2, fw1_2⟩, ⟨cw1_3, fw1_3⟩, ⟨cw1_4, fw1_4⟩, -⟩ := Lw1
      go_wp2_with fail
      refine (chargesOf_c _ fs (by omega) _ (HI.out.below (bl_alloc (bl_call hb1 (bl_alloc (bl_alloc (bl_refl _) _) _)) _))).mono ?_; rintro e w2 ⟨p, rfl, hL, hb2⟩; have hzw2_0 : w.heap.size < w2.heap.size := (by have hzz := hb2.size; (try simp at hzz); omega); have hzw2_1 : w.heap.size + 1 < w2.heap.size := (by have hzz := hb2.size; (try simp at hzz); omega); have hzw2_2 : w1.heap.size < w2.heap.size := (by have hzz := hb2.size; (try simp at hzz); omega); have Lw2 := Locals.call hb2 (L := [(⟨w.heap.size, 0, none⟩, .int .i64 cn), (⟨w.heap.size, 1, none⟩, .int .i64 cd), (⟨w.heap.size, 2, none⟩, .slice a fs.length cp), (⟨w.heap.size + 1, 0, none⟩, .int .i64 0), (⟨w.heap.size + 1, 1, none⟩, .int .i64 0), (⟨w1.heap.size, 0, none⟩, .int .i64 0), (⟨w1.heap.size, 1, none⟩, .int .i64 1)]) (by simp only [Locals]; repeat' (first | exact trivial | apply And.intro) <;> go_simp); obtain ⟨⟨cw2_0, fw2_0⟩, ⟨cw2_1, fw2_1⟩, ⟨cw2_2, fw2_2⟩, ⟨cw2_3, fw2_3⟩, ⟨cw2_4, fw2_4⟩, ⟨cw2_5, fw2_5⟩, ⟨cw2_6, fw2_6⟩, -⟩ := Lw2
      rw [World.size_alloc] at hL
      have hB2 : Below w.heap.size w w2 := (by repeat' (first | with_reducible exact bl_refl _ | with_reducible apply bl_alloc | with_reducible apply bl_drewN | with_reducible apply bl_drew | with_reducible apply bl_set | with_reducible refine bl_call (by assumption) ?_ | (simp; done) | (simp; omega) | omega))
      go_wp2_with fail
      go_loopg [5, 6, 7] (fs.length + 1) (fun m i p6 q7 wr => ∃ (p : Option Addr) (acc : Fr) (rest : List Fr), rest.length + 1 = m ∧ i = .pointer p ∧ Below w.heap.size w wr ∧ w1.heap.size < wr.heap.size ∧ ChargeL (w1.heap.size + 1) wr p rest ∧
        Locals wr [(⟨w.heap.size, 0, none⟩, .int .i64 cn), (⟨w.heap.size, 1, none⟩, .int .i64 cd), (⟨w.heap.size, 2, none⟩, .slice a fs.length cp), (⟨w.heap.size + 1, 0, none⟩, .int .i64 0), (⟨w.heap.size + 1, 1, none⟩, .int .i64 0), (⟨w1.heap.size, 0, none⟩, .int .i64 acc.n), (⟨w1.heap.size, 1, none⟩, .int .i64 acc.d)] ∧ lsum acc rest = lsum ⟨0, 1⟩ fs)
      case atStart => exact ⟨p, ⟨0, 1⟩, fs, rfl, rfl, hB2, by omega, hL, by (simp only [Locals]; repeat' (first | exact trivial | apply And.intro) <;> go_simp), rfl⟩
      case round =>
        obtain ⟨p, acc, rest, hm, rfl, hB, hz, hL, ⟨⟨c0, f0⟩, ⟨c1, f1⟩, ⟨c2, f2⟩, ⟨c3, f3⟩, ⟨c4, f4⟩, ⟨c5, f5⟩, ⟨c6, f6⟩, -⟩, hl⟩ := hrel
        have Hl := Lib.hid hl
        clear hl
        have hsz := hB.size
        have hz0 : w.heap.size < wr.heap.size := by omega
        have hz1 : w.heap.size + 1 < wr.heap.size := by omega
        cases rest with
        | nil =>
          obtain rfl : p = none := hL
          have hr : lsum ⟨0, 1⟩ fs = (acc, true) := by rw [← Hl.out]; rfl
          have hao : acc.ok = true := by have := Hso.out; rw [hr] at this; exact this rfl
          have hfc : fcmp acc ⟨cn, cd⟩ = cmpI (acc.n * cd) (cn * acc.d) := by unfold fcmp; rw [if_pos (by simp [hao, Hoc.out])]
          by_cases hc : 0 < cmpI (acc.n * cd) (cn * acc.d)
          · have hr1 : ledOk ⟨cn, cd⟩ fs = false := by unfold ledOk; rw [hr]; simp [Hoc.out]; intro _; omega
            have hr2 : ledSum ⟨cn, cd⟩ fs = Fr.zero := by unfold ledSum; rw [hr1]; rfl
            have Hr1 := Lib.hid hr1
            have Hr2 := Lib.hid hr2
            have Hfc := Lib.hid hfc
            clear hr1 hr2 hr hao hfc
            go_wp2_with fail
            refine (iFracCmp_c acc ⟨cn, cd⟩ _).mono ?_; rintro e w3 ⟨rfl, hb3⟩; rw [Hfc.out]; have hzw3_0 : w.heap.size < w3.heap.size := (by have hzz := hb3.size; (try simp at hzz); omega); have hzw3_1 : w.heap.size + 1 < w3.heap.size := (by have hzz := hb3.size; (try simp at hzz); omega); have hzw3_2 : w1.heap.size < w3.heap.size := (by have hzz := hb3.size; (try simp at hzz); omega); have Lw3 := Locals.call hb3 (L := [(⟨w.heap.size, 0, none⟩, .int .i64 cn), (⟨w.heap.size, 1, none⟩, .int .i64 cd), (⟨w.heap.size, 2, none⟩, .slice a fs.length cp), (⟨w.heap.size + 1, 0, none⟩, .int .i64 0), (⟨w.heap.size + 1, 1, none⟩, .int .i64 0), (⟨w1.heap.size, 0, none⟩, .int .i64 acc.n), (⟨w1.heap.size, 1, none⟩, .int .i64 acc.d)]) (by simp only [Locals]; repeat' (first | exact trivial | apply And.intro) <;> go_simp); obtain ⟨⟨cw3_0, fw3_0⟩, ⟨cw3_1, fw3_1⟩, ⟨cw3_2, fw3_2⟩, ⟨cw3_3, fw3_3⟩, ⟨cw3_4, fw3_4⟩, ⟨cw3_5, fw3_5⟩, ⟨cw3_6, fw3_6⟩, -⟩ := Lw3
            go_wp2_with fail
            rw [Hr1.out, Hr2.out]
            refine bodyPost_ret (v := .tuple #[.agg #[.int .i64 0, .int .i64 0], .bool false]) (by simp only [results, Try.results83]; go_simp) rfl ⟨rfl, (by repeat' (first | with_reducible exact bl_refl _ | with_reducible apply bl_alloc | with_reducible apply bl_drewN | with_reducible apply bl_drew | with_reducible apply bl_set | with_reducible refine bl_call (by assumption) ?_ | (simp; done) | (simp; omega) | omega))⟩
          · have hr1 : ledOk ⟨cn, cd⟩ fs = true := by unfold ledOk; rw [hr]; simp [Hoc.out]; exact ⟨h8, by omega⟩
            have hr2 : ledSum ⟨cn, cd⟩ fs = acc := by unfold ledSum; rw [hr1, hr]; rfl
            have Hr1 := Lib.hid hr1
            have Hr2 := Lib.hid hr2
            have Hfc := Lib.hid hfc
            clear hr1 hr2 hr hao hfc
            go_wp2_with fail
            refine (iFracCmp_c acc ⟨cn, cd⟩ _).mono ?_; rintro e w3 ⟨rfl, hb3⟩; rw [Hfc.out]; have hzw3_0 : w.heap.size < w3.heap.size := (by have hzz := hb3.size; (try simp at hzz); omega); have hzw3_1 : w.heap.size + 1 < w3.heap.size := (by have hzz := hb3.size; (try simp at hzz); omega); have hzw3_2 : w1.heap.size < w3.heap.size := (by have hzz := hb3.size; (try simp at hzz); omega); have Lw3 := Locals.call hb3 (L := [(⟨w.heap.size, 0, none⟩, .int .i64 cn), (⟨w.heap.size, 1, none⟩, .int .i64 cd), (⟨w.heap.size, 2, none⟩, .slice a fs.length cp), (⟨w.heap.size + 1, 0, none⟩, .int .i64 0), (⟨w.heap.size + 1, 1, none⟩, .int .i64 0), (⟨w1.heap.size, 0, none⟩, .int .i64 acc.n), (⟨w1.heap.size, 1, none⟩, .int .i64 acc.d)]) (by simp only [Locals]; repeat' (first | exact trivial | apply And.intro) <;> go_simp); obtain ⟨⟨cw3_0, fw3_0⟩, ⟨cw3_1, fw3_1⟩, ⟨cw3_2, fw3_2⟩, ⟨cw3_3, fw3_3⟩, ⟨cw3_4, fw3_4⟩, ⟨cw3_5, fw3_5⟩, ⟨cw3_6, fw3_6⟩, -⟩ := Lw3
            go_wp2_with fail
            rw [Hr1.out, Hr2.out]
            refine bodyPost_ret (v := .tuple #[.agg #[.int .i64 acc.n, .int .i64 acc.d], .bool true]) (by simp only [results, Try.results83]; go_simp) rfl ⟨rfl, (by repeat' (first | with_reducible exact bl_refl _ | with_reducible apply bl_alloc | with_reducible apply bl_drewN | with_reducible apply bl_drew | with_reducible apply bl_set | with_reducible refine bl_call (by assumption) ?_ | (simp; done) | (simp; omega) | omega))⟩
        | cons f r =>
          obtain ⟨b, q, rfl, hbB, e0, e1, e2, hL'⟩ := hL
          have Hm := Lib.hid hm
          clear hm
          have hbz := lt_of_cell e0
          simp only at hbz
          have hn1 : ¬ wr.heap.size = w.heap.size + 1 := by omega
          have hn2 : ¬ wr.heap.size = w.heap.size := by omega
          have hn3 : ¬ wr.heap.size = b := by omega
          have hn4 : ¬ wr.heap.size = w1.heap.size := by omega
          have hn5 : ¬ w1.heap.size = w.heap.size := by omega
          have hn6 : ¬ w1.heap.size = w.heap.size + 1 := by omega
          have hn7 : ¬ w1.heap.size = b := by omega
          cases hs : (fsum acc f).2
          · have Hs := Lib.hid hs
            clear hs
            have hr : (lsum ⟨0, 1⟩ fs).2 = false := by rw [← Hl.out]; unfold lsum; rw [Hs.out]; rfl
            have hr1 : ledOk ⟨cn, cd⟩ fs = false := by unfold ledOk; rw [hr]; simp
            have hr2 : ledSum ⟨cn, cd⟩ fs = Fr.zero := by unfold ledSum; rw [hr1]; rfl
            have Hr1 := Lib.hid hr1
            have Hr2 := Lib.hid hr2
            clear hr1 hr2 hr
            go_wp2_with fail
            go_region_held3 (fun w' => w'.cell? ⟨w1.heap.size, 0, none⟩ = some (.int .i64 acc.n) ∧ w'.cell? ⟨w1.heap.size, 1, none⟩ = some (.int .i64 acc.d) ∧ w'.cell? ⟨b, 0, none⟩ = some (.int .i64 f.n) ∧ w'.cell? ⟨b, 1, none⟩ = some (.int .i64 f.d)) (go_keep)
              (first | (go_at_call 92; refine (iFracSum_c acc f _).mono ?_; rintro e w3 ⟨rfl, hb3⟩; simp only [Fr.v, Hs.out]; (first | (have hzw3_0 : w.heap.size < w3.heap.size := (by have hzz := hb3.size; (try simp at hzz); omega); have hzw3_1 : w.heap.size + 1 < w3.heap.size := (by have hzz := hb3.size; (try simp at hzz); omega); have hzw3_2 : w1.heap.size < w3.heap.size := (by have hzz := hb3.size; (try simp at hzz); omega); have hzw3_3 : b < w3.heap.size := (by have hzz := hb3.size; (try simp at hzz); omega); have hzw3_4 : wr.heap.size < w3.heap.size := (by have hzz := hb3.size; (try simp at hzz); omega); have Lw3 := Locals.call hb3 (L := [(⟨w.heap.size, 0, none⟩, .int .i64 cn), (⟨w.heap.size, 1, none⟩, .int .i64 cd), (⟨w.heap.size, 2, none⟩, .slice a fs.length cp), (⟨w.heap.size + 1, 0, none⟩, .int .i64 0), (⟨w.heap.size + 1, 1, none⟩, .int .i64 0), (⟨w1.heap.size, 0, none⟩, .int .i64 acc.n), (⟨w1.heap.size, 1, none⟩, .int .i64 acc.d), (⟨wr.heap.size, 0, none⟩, .int .i64 0), (⟨wr.heap.size, 1, none⟩, .int .i64 0)]) (by simp only [Locals]; repeat' (first | exact trivial | apply And.intro) <;> go_simp); obtain ⟨⟨cw3_0, fw3_0⟩, ⟨cw3_1, fw3_1⟩, ⟨cw3_2, fw3_2⟩, ⟨cw3_3, fw3_3⟩, ⟨cw3_4, fw3_4⟩, ⟨cw3_5, fw3_5⟩, ⟨cw3_6, fw3_6⟩, ⟨cw3_7, fw3_7⟩, ⟨cw3_8, fw3_8⟩, -⟩ := Lw3; have Kw3 := CellsL.call hb3 (L := [(⟨b, 0, none⟩, .int .i64 f.n), (⟨b, 1, none⟩, .int .i64 f.d), (⟨b, 2, none⟩, .pointer q)]) (by simp only [CellsL]; repeat' (first | exact trivial | apply And.intro) <;> go_simp); obtain ⟨dw3_0, dw3_1, dw3_2, -⟩ := Kw3) | (have hzw3_0 : w.heap.size < w3.heap.size := (by have hzz := hb3.size; (try simp at hzz); omega); have hzw3_1 : w.heap.size + 1 < w3.heap.size := (by have hzz := hb3.size; (try simp at hzz); omega); have hzw3_2 : w1.heap.size < w3.heap.size := (by have hzz := hb3.size; (try simp at hzz); omega); have hzw3_3 : b < w3.heap.size := (by have hzz := hb3.size; (try simp at hzz); omega); have Lw3 := Locals.call hb3 (L := [(⟨w.heap.size, 0, none⟩, .int .i64 cn), (⟨w.heap.size, 1, none⟩, .int .i64 cd), (⟨w.heap.size, 2, none⟩, .slice a fs.length cp), (⟨w.heap.size + 1, 0, none⟩, .int .i64 0), (⟨w.heap.size + 1, 1, none⟩, .int .i64 0), (⟨w1.heap.size, 0, none⟩, .int .i64 acc.n), (⟨w1.heap.size, 1, none⟩, .int .i64 acc.d)]) (by simp only [Locals]; repeat' (first | exact trivial | apply And.intro) <;> go_simp); obtain ⟨⟨cw3_0, fw3_0⟩, ⟨cw3_1, fw3_1⟩, ⟨cw3_2, fw3_2⟩, ⟨cw3_3, fw3_3⟩, ⟨cw3_4, fw3_4⟩, ⟨cw3_5, fw3_5⟩, ⟨cw3_6, fw3_6⟩, -⟩ := Lw3; have Kw3 := CellsL.call hb3 (L := [(⟨b, 0, none⟩, .int .i64 f.n), (⟨b, 1, none⟩, .int .i64 f.d), (⟨b, 2, none⟩, .pointer q)]) (by simp only [CellsL]; repeat' (first | exact trivial | apply And.intro) <;> go_simp); obtain ⟨dw3_0, dw3_1, dw3_2, -⟩ := Kw3))))
            all_goals
              go_wp2_with fail
              rw [Hr1.out, Hr2.out]
              refine bodyPost_ret (v := .tuple #[.agg #[.int .i64 0, .int .i64 0], .bool false]) (by simp only [results, Try.results83]; go_simp) rfl ⟨rfl, (by repeat' (first | with_reducible exact bl_refl _ | with_reducible apply bl_alloc | with_reducible apply bl_drewN | with_reducible apply bl_drew | with_reducible apply bl_set | with_reducible refine bl_call (by assumption) ?_ | (simp; done) | (simp; omega) | omega))⟩
          · have Hs := Lib.hid hs
            clear hs
            go_wp2_with fail
            go_region_held3 (fun w' => w'.cell? ⟨w1.heap.size, 0, none⟩ = some (.int .i64 acc.n) ∧ w'.cell? ⟨w1.heap.size, 1, none⟩ = some (.int .i64 acc.d) ∧ w'.cell? ⟨b, 0, none⟩ = some (.int .i64 f.n) ∧ w'.cell? ⟨b, 1, none⟩ = some (.int .i64 f.d)) (go_keep)
              (first | (go_at_call 92; refine (iFracSum_c acc f _).mono ?_; rintro e w3 ⟨rfl, hb3⟩; simp only [Fr.v, Hs.out]; (first | (have hzw3_0 : w.heap.size < w3.heap.size := (by have hzz := hb3.size; (try simp at hzz); omega); have hzw3_1 : w.heap.size + 1 < w3.heap.size := (by have hzz := hb3.size; (try simp at hzz); omega); have hzw3_2 : w1.heap.size < w3.heap.size := (by have hzz := hb3.size; (try simp at hzz); omega); have hzw3_3 : b < w3.heap.size := (by have hzz := hb3.size; (try simp at hzz); omega); have hzw3_4 : wr.heap.size < w3.heap.size := (by have hzz := hb3.size; (try simp at hzz); omega); have Lw3 := Locals.call hb3 (L := [(⟨w.heap.size, 0, none⟩, .int .i64 cn), (⟨w.heap.size, 1, none⟩, .int .i64 cd), (⟨w.heap.size, 2, none⟩, .slice a fs.length cp), (⟨w.heap.size + 1, 0, none⟩, .int .i64 0), (⟨w.heap.size + 1, 1, none⟩, .int .i64 0), (⟨w1.heap.size, 0, none⟩, .int .i64 acc.n), (⟨w1.heap.size, 1, none⟩, .int .i64 acc.d), (⟨wr.heap.size, 0, none⟩, .int .i64 0), (⟨wr.heap.size, 1, none⟩, .int .i64 0)]) (by simp only [Locals]; repeat' (first | exact trivial | apply And.intro) <;> go_simp); obtain ⟨⟨cw3_0, fw3_0⟩, ⟨cw3_1, fw3_1⟩, ⟨cw3_2, fw3_2⟩, ⟨cw3_3, fw3_3⟩, ⟨cw3_4, fw3_4⟩, ⟨cw3_5, fw3_5⟩, ⟨cw3_6, fw3_6⟩, ⟨cw3_7, fw3_7⟩, ⟨cw3_8, fw3_8⟩, -⟩ := Lw3; have Kw3 := CellsL.call hb3 (L := [(⟨b, 0, none⟩, .int .i64 f.n), (⟨b, 1, none⟩, .int .i64 f.d), (⟨b, 2, none⟩, .pointer q)]) (by simp only [CellsL]; repeat' (first | exact trivial | apply And.intro) <;> go_simp); obtain ⟨dw3_0, dw3_1, dw3_2, -⟩ := Kw3) | (have hzw3_0 : w.heap.size < w3.heap.size := (by have hzz := hb3.size; (try simp at hzz); omega); have hzw3_1 : w.heap.size + 1 < w3.heap.size := (by have hzz := hb3.size; (try simp at hzz); omega); have hzw3_2 : w1.heap.size < w3.heap.size := (by have hzz := hb3.size; (try simp at hzz); omega); have hzw3_3 : b < w3.heap.size := (by have hzz := hb3.size; (try simp at hzz); omega); have Lw3 := Locals.call hb3 (L := [(⟨w.heap.size, 0, none⟩, .int .i64 cn), (⟨w.heap.size, 1, none⟩, .int .i64 cd), (⟨w.heap.size, 2, none⟩, .slice a fs.length cp), (⟨w.heap.size + 1, 0, none⟩, .int .i64 0), (⟨w.heap.size + 1, 1, none⟩, .int .i64 0), (⟨w1.heap.size, 0, none⟩, .int .i64 acc.n), (⟨w1.heap.size, 1, none⟩, .int .i64 acc.d)]) (by simp only [Locals]; repeat' (first | exact trivial | apply And.intro) <;> go_simp); obtain ⟨⟨cw3_0, fw3_0⟩, ⟨cw3_1, fw3_1⟩, ⟨cw3_2, fw3_2⟩, ⟨cw3_3, fw3_3⟩, ⟨cw3_4, fw3_4⟩, ⟨cw3_5, fw3_5⟩, ⟨cw3_6, fw3_6⟩, -⟩ := Lw3; have Kw3 := CellsL.call hb3 (L := [(⟨b, 0, none⟩, .int .i64 f.n), (⟨b, 1, none⟩, .int .i64 f.d), (⟨b, 2, none⟩, .pointer q)]) (by simp only [CellsL]; repeat' (first | exact trivial | apply And.intro) <;> go_simp); obtain ⟨dw3_0, dw3_1, dw3_2, -⟩ := Kw3))))
            all_goals
              go_wp2_with fail
              go_roundg (gk - 1)
              case measure => have := Hm.out; simp at this; omega
              case rel =>
                refine ⟨q, (fsum acc f).1, r, ?_, rfl, ?_, ?_, ?_, ?_, ?_⟩
                · have := Hm.out; simp at this; omega
                · exact (by repeat' (first | with_reducible exact bl_refl _ | with_reducible apply bl_alloc | with_reducible apply bl_drewN | with_reducible apply bl_drew | with_reducible apply bl_set | with_reducible refine bl_call (by assumption) ?_ | (simp; done) | (simp; omega) | omega))
                · simp; omega
                · exact hL'.keeps (by repeat' (first | with_reducible exact Keeps.refl _ _ | with_reducible apply Keeps.alloc | with_reducible apply Keeps.drewN | with_reducible apply Keeps.drew | ((with_reducible refine Keeps.set ?_ ?_ _); rotate_left; (focus (first | (simp; done) | (simp; omega)))) | ((with_reducible refine Keeps.setNew ?_ ?_ _); rotate_left; (focus (first | (simp; done) | (simp; omega)))) | with_reducible refine Keeps.call (by assumption) ?_))
                · exact (by (simp only [Locals]; repeat' (first | exact trivial | apply And.intro) <;> go_simp))
                · rw [← Hl.out]; (conv => rhs; unfold lsum; rw [Hs.out]); simp
    · have h8i : 8 < (fs.length : Int) := by omega
      have hr1 : ledOk ⟨cn, cd⟩ fs = false := by unfold ledOk; simp [h8]
      have hr2 : ledSum ⟨cn, cd⟩ fs = Fr.zero := by unfold ledSum; rw [hr1]; rfl
      rw [hr1, hr2]
      clear hr1 hr2 h8
      go_enter Try.func83, Try.ntmps83
      go_wp2_with fail
      refine (iFracOk_c _ _ _).mono ?_; rintro e w1 ⟨rfl, hb1⟩; rw [Hok.out]; have hzw1_0 : w.heap.size < w1.heap.size := (by have hzz := hb1.size; (try simp at hzz); omega); have hzw1_1 : w.heap.size + 1 < w1.heap.size := (by have hzz := hb1.size; (try simp at hzz); omega); have Lw1 := Locals.call hb1 (L := [(⟨w.heap.size, 0, none⟩, .int .i64 cn), (⟨w.heap.size, 1, none⟩, .int .i64 cd), (⟨w.heap.size, 2, none⟩, .slice a fs.length cp), (⟨w.heap.size + 1, 0, none⟩, .int .i64 0), (⟨w.heap.size + 1, 1, none⟩, .int .i64 0)]) (by simp only [Locals]; repeat' (first | exact trivial | apply And.intro) <;> go_simp); obtain ⟨⟨cw1_0, fw1_0⟩, ⟨cw1_1, fw1_1⟩, ⟨cw1_2, fw1_2⟩, ⟨cw1_3, fw1_3⟩, ⟨cw1_4, fw1_4⟩, -⟩ := Lw1
      go_wp2_with fail
      refine bodyPost_ret (v := .tuple #[.agg #[.int .i64 0, .int .i64 0], .bool false]) (by simp only [results, Try.results83]; go_simp) rfl ⟨rfl, (by repeat' (first | with_reducible exact bl_refl _ | with_reducible apply bl_alloc | with_reducible apply bl_drewN | with_reducible apply bl_drew | with_reducible apply bl_set | with_reducible refine bl_call (by assumption) ?_ | (simp; done) | (simp; omega) | omega))⟩
theorem iLedgerOk_c (cap : Fr) (v : Value) (fs : List Fr) (w : World) (hI : FracsAt w v fs) :
    Calls Try.prog 72 #[.agg #[.int .i64 cap.n, .int .i64 cap.d, v]] w fun e w' => e = .returned (.bool (ledOk cap fs)) ∧ Below w.heap.size w w' := by
  have hbx := hI.below (bl_alloc (bl_refl w) (.cells #[.int .i64 cap.n, .int .i64 cap.d, v] 33))
  have Hbx := Lib.hid hbx
  clear hbx
  obtain ⟨a, cp, rfl, -⟩ := hI
  go_enter Try.func72, Try.ntmps72
  go_wp2_with fail
  refine (iLedgerSum_c cap _ _ _ Hbx.out).mono ?_; rintro e w1 ⟨rfl, hb1⟩; simp only [Fr.v]
  go_wp2_with fail
  go_ret
  exact ⟨rfl, (by repeat' (first | with_reducible exact bl_refl _ | with_reducible apply bl_alloc | with_reducible apply bl_drewN | with_reducible apply bl_drew | with_reducible apply bl_set | with_reducible refine bl_call (by assumption) ?_ | (simp; done) | (simp; omega) | omega))⟩
end Go.Proofs.Ytnffoddeppimkaa
namespace Go.Proofs.Ytnffoddeppimkaa
open Go.RowKit
set_option linter.unusedVariables false
set_option linter.unusedSimpArgs false
def fcells : List Fr → List Value
  | [] => []
  | f :: r => .int .i64 f.n :: .int .i64 f.d :: fcells r
theorem fcells_length : ∀ fs : List Fr, (fcells fs).length = fs.length * 2
  | [] => rfl
  | f :: r => by simp [fcells, fcells_length r]; omega
theorem fcells_append : ∀ a b : List Fr, fcells (a ++ b) = fcells a ++ fcells b
  | [], _ => rfl
  | f :: r, b => by simp [fcells, fcells_append r b]
theorem fcells_one : ∀ fs : List Fr, ∀ u ∈ fcells fs, u.oneCell' = true
  | [], _, h => by cases h
  | f :: r, u, h => by
    simp only [fcells, List.mem_cons] at h
    rcases h with rfl | rfl | h
    · rfl
    · rfl
    · exact fcells_one r u h
theorem fcells_at : ∀ (fs : List Fr) (i : Nat) (f : Fr), fs[i]? = some f → (fcells fs)[i * 2]? = some (.int .i64 f.n) ∧ (fcells fs)[i * 2 + 1]? = some (.int .i64 f.d)
  | [], i, f, h => by simp at h
  | g :: r, 0, f, h => by simp at h; subst h; simp [fcells]
  | g :: r, i + 1, f, h => by
    have := fcells_at r i f (by simpa using h)
    rw [show (i + 1) * 2 = i * 2 + 1 + 1 by omega, show (i * 2 + 1 + 1) + 1 = i * 2 + 1 + 1 + 1 by omega]
    simpa [fcells] using this
theorem fcells_of {fs : List Fr} {j : Nat} {u : Value} (h : (fcells fs)[j]? = some u) : ∃ i f, fs[i]? = some f ∧ ((j = i * 2 ∧ u = .int .i64 f.n) ∨ (j = i * 2 + 1 ∧ u = .int .i64 f.d)) := by
  have hj : j < fs.length * 2 := by rw [← fcells_length]; exact (List.getElem?_eq_some_iff.1 h).1
  have hf : fs[j / 2]? = some fs[j / 2] := List.getElem?_eq_getElem (by omega)
  obtain ⟨h1, h2⟩ := fcells_at fs (j / 2) _ hf
  refine ⟨j / 2, _, hf, ?_⟩
  rcases Nat.mod_two_eq_zero_or_one j with e | e
  · have e1 : j = j / 2 * 2 := by omega
    rw [← e1, h] at h1
    exact .inl ⟨e1, (Option.some.inj h1)⟩
  · have e1 : j = j / 2 * 2 + 1 := by omega
    rw [← e1, h] at h2
    exact .inr ⟨e1, (Option.some.inj h2)⟩
abbrev OwnF (w : World) (B : Nat) (v : Value) (fs : List Fr) : Prop := w.ownsRow B 30 2 v fs.length (fcells fs)
theorem OwnF.reads {w : World} {B : Nat} {v : Value} {fs : List Fr} (h : OwnF w B v fs) : FracsAt w v fs := by
  have hh := h
  obtain ⟨hl, h | ⟨g, cap, cur, rfl, hB, hg, hn, hm, hs, ht⟩⟩ := h
  · obtain ⟨rfl, hz⟩ := h
    obtain rfl : fs = [] := List.eq_nil_of_length_eq_zero hz
    exact ⟨none, 0, rfl, Nat.le_refl _, .inl rfl⟩
  · refine ⟨_, cap, rfl, hn, .inr ⟨g, 0, rfl, fun i f hf => ?_⟩⟩
    obtain ⟨h1, h2⟩ := fcells_at fs i f hf
    have hi : i < fs.length := (List.getElem?_eq_some_iff.1 hf).1
    have c1 := hh.cellAt (i * 2) (by omega)
    have c2 := hh.cellAt (i * 2 + 1) (by omega)
    exact ⟨by rw [Nat.zero_add, c1]; exact h1, by rw [Nat.zero_add, c2]; exact h2⟩
theorem FracsAt.news {w : World} {a : Addr} {cap : Nat} {fs : List Fr} (h : FracsAt w (.slice (some a) fs.length cap) fs) (hne : fs ≠ []) : ∀ j u, (fcells fs)[j]? = some u → w.cell? (a.add j) = some u := by
  obtain ⟨a', cap', e, hl, h⟩ := h
  obtain ⟨b, off, e2, hc⟩ := h.resolve_left hne
  injection e with e1 _ _
  rw [e2] at e1
  cases e1
  intro j u hj
  obtain ⟨i, f, hf, h | h⟩ := fcells_of hj
  · obtain ⟨rfl, rfl⟩ := h
    have := (hc i f hf).1
    by_cases hz : i * 2 = 0
    · rw [hz]; rw [hz] at this; simpa [Addr.add] using this
    · simpa [Addr.add, hz] using this
  · obtain ⟨rfl, rfl⟩ := h
    have := (hc i f hf).2
    simpa [Addr.add, Nat.add_assoc] using this
theorem Try.infoFrac : (Try.prog.info? 30).map (fun i => (i.zero, i.size, i.bytes)) = some (some (.agg #[.int .i64 0, .int .i64 0]), 2, 16) := by kernel_rfl
theorem cloneF_c (v : Value) (fs : List Fr) (w : World) (hI : FracsAt w v fs) (hn : fs.length ≤ 4000000) :
    Calls Try.prog 95 #[v] w fun e w' => ∃ v', e = .returned v' ∧ OwnF w' w.heap.size v' fs ∧ Below w.heap.size w w' := by
  obtain ⟨a, cap, rfl, hcap, h⟩ := id hI
  obtain ⟨i0, hi, hz0, hz1, hz2⟩ := info_parts Try.infoFrac
  have hq := fun (w : World) (a : Option Addr) (n c : Nat) => Lib.run_eql_slice_nil (P := Try.prog) w 31 30 a n c 0 0 Try.underlying31
  cases a with
  | none =>
    obtain rfl : fs = [] := by
      rcases h with h | ⟨b, off, h, -⟩
      · exact h
      · cases h
    go_enter Try.func95, Try.ntmps95
    go_wp2
    go_ret
    exact ⟨_, rfl, World.ownsRow_nil _ _ _ _, bl_refl _⟩
  | some ad =>
    have hown := World.ownsRow_made (base := w.heap.size) (e := 30) (size := 2) w #[] 0 (Nat.le_refl _) (Nat.zero_le _) rfl
    have hI2 := hI.below (bl_alloc (bl_refl w) (.cells #[] 30))
    have hm : fs.length ≤ maxLen := by unfold maxLen; omega
    by_cases hne : fs = []
    · subst hne
      have hq' := fun (w : World) => hq w (some ad) 0 cap
      simp only [Option.isNone] at hq'
      clear hq
      go_enter Try.func95, Try.ntmps95
      go_wp2_with (at_builtin; refine wpList_append_own _ rfl _ _ 31 rfl w.heap.size 30 i0 (.agg #[.int .i64 0, .int .i64 0]) 2 16 Try.underlying31 hi hz0 hz1 hz2 rfl (by decide) _ 0 [] rfl hown ad 0 cap [] rfl rfl (by intro j u h; cases h) (by intro u h; cases h) (by omega) (by omega) (by simp) ?_; intro v' w1 hown1 hgrow1 _; simp only [Nat.zero_add, List.nil_append] at hown1)
      go_ret
      exact ⟨_, rfl, hown1, (bl_alloc (bl_refl w) _).grown hgrow1 (by simp) (fun k e => by cases e; exact Nat.le_refl _)⟩
    · have hq' := fun (w : World) => hq w (some ad) fs.length cap
      simp only [Option.isNone] at hq'
      clear hq
      go_enter Try.func95, Try.ntmps95
      go_wp2_with (at_builtin; refine wpList_append_own _ rfl _ _ 31 rfl w.heap.size 30 i0 (.agg #[.int .i64 0, .int .i64 0]) 2 16 Try.underlying31 hi hz0 hz1 hz2 rfl (by decide) _ 0 [] rfl hown ad fs.length cap (fcells fs) rfl (fcells_length fs) (hI2.news hne) (fcells_one fs) (by omega) (by omega) (by simp) ?_; intro v' w1 hown1 hgrow1 _; simp only [Nat.zero_add, List.nil_append] at hown1)
      go_ret
      exact ⟨_, rfl, hown1, (bl_alloc (bl_refl w) _).grown hgrow1 (by simp) (fun k e => by cases e; exact Nat.le_refl _)⟩
theorem clipF_c (a : Option Addr) (n cap : Nat) (w : World) (h : n ≤ cap) (hn : n ≤ 4000000) (ha : a = none → n = 0) :
    Calls Try.prog 88 #[.slice a n cap] w fun e w' => e = .returned (.slice a n n) ∧ w = w' := by
  go_enter Try.func88, Try.ntmps88
  go_wp2
  go_ret
  exact ⟨rfl, rfl⟩
def OwnFr (w : World) (B : Nat) (v : Value) (fs : List Fr) : Prop :=
  ∃ a cap, v = .slice a fs.length cap ∧ fs.length ≤ cap ∧ (a = none → fs.length = 0 ∧ cap = 0) ∧ (fs = [] ∨ ∃ b, a = some ⟨b, 0, none⟩ ∧ B ≤ b ∧
    ∀ i f, fs[i]? = some f → (w.cell? ⟨b, i * 2, none⟩ = some (.int .i64 f.n) ∧ w.frozen? ⟨b, i * 2, none⟩ = false) ∧ (w.cell? ⟨b, i * 2 + 1, none⟩ = some (.int .i64 f.d) ∧ w.frozen? ⟨b, i * 2 + 1, none⟩ = false))
theorem OwnFr.reads {w : World} {B : Nat} {v : Value} {fs : List Fr} (h : OwnFr w B v fs) : FracsAt w v fs := by
  obtain ⟨a, cap, e, hl, _, h⟩ := h
  exact ⟨a, cap, e, hl, h.imp id fun ⟨b, e2, _, hc⟩ => ⟨b, 0, e2, fun i f hf => ⟨by rw [Nat.zero_add]; exact (hc i f hf).1.1, by rw [Nat.zero_add]; exact (hc i f hf).2.1⟩⟩⟩
theorem OwnFr.below {w w1 : World} {B : Nat} {v : Value} {fs : List Fr} (h : OwnFr w B v fs) (hb : Below w.heap.size w w1) : OwnFr w1 B v fs := by
  obtain ⟨a, cap, e, hl, h0, h⟩ := h
  refine ⟨a, cap, e, hl, h0, h.imp id fun ⟨b, e2, hB, hc⟩ => ⟨b, e2, hB, fun i f hf => ?_⟩⟩
  obtain ⟨⟨h1, h2⟩, h3, h4⟩ := hc i f hf
  have := lt_of_cell h1
  exact ⟨⟨by rw [hb.cell this]; exact h1, by rw [hb.frozen this]; exact h2⟩, by rw [hb.cell (lt_of_cell h3)]; exact h3, by rw [hb.frozen (lt_of_cell h3)]; exact h4⟩
theorem OwnFr.low {w : World} {B B' : Nat} {v : Value} {fs : List Fr} (h : OwnFr w B v fs) (hB : B' ≤ B) : OwnFr w B' v fs := by
  obtain ⟨a, cap, e, hl, h0, h⟩ := h
  exact ⟨a, cap, e, hl, h0, h.imp id fun ⟨b, e2, hb, hc⟩ => ⟨b, e2, Nat.le_trans hB hb, hc⟩⟩
theorem OwnF.fr {w : World} {B : Nat} {v : Value} {fs : List Fr} (h : OwnF w B v fs) : OwnFr w B v fs := by
  have hh := h
  obtain ⟨hl, h | ⟨g, cap, cur, rfl, hB, hg, hn, hm, hs, ht⟩⟩ := h
  · obtain ⟨rfl, hz⟩ := h
    obtain rfl : fs = [] := List.eq_nil_of_length_eq_zero hz
    exact ⟨none, 0, rfl, Nat.le_refl _, fun _ => ⟨rfl, rfl⟩, .inl rfl⟩
  · refine ⟨_, cap, rfl, hn, fun e => by (cases e), .inr ⟨g, rfl, hB, fun i f hf => ?_⟩⟩
    obtain ⟨h1, h2⟩ := fcells_at fs i f hf
    have hi : i < fs.length := (List.getElem?_eq_some_iff.1 hf).1
    exact ⟨⟨by rw [hh.cellAt (i * 2) (by omega)]; exact h1, hh.frozenAt _⟩, by rw [hh.cellAt (i * 2 + 1) (by omega)]; exact h2, hh.frozenAt _⟩
theorem OwnFr.set {w : World} {B : Nat} {v : Value} {fs : List Fr} (h : OwnFr w B v fs) {x : Addr} (hx : x.block < B) (u : Value) : OwnFr (w.setCell x u) B v fs := by
  obtain ⟨a, cap, e, hl, h0, h⟩ := h
  refine ⟨a, cap, e, hl, h0, h.imp id fun ⟨b, e2, hB, hc⟩ => ⟨b, e2, hB, fun i f hf => ?_⟩⟩
  obtain ⟨⟨h1, h2⟩, h3, h4⟩ := hc i f hf
  have hne : ∀ o, x ≠ ⟨b, o, none⟩ := fun o e => by rw [e] at hx; simp at hx; omega
  rw [World.cell?_setCell_other _ _ _ _ (hne _), World.cell?_setCell_other _ _ _ _ (hne _), World.frozen?_setCell, World.frozen?_setCell]
  exact ⟨⟨h1, h2⟩, h3, h4⟩
theorem OwnFr.alloc {w : World} {B : Nat} {v : Value} {fs : List Fr} (h : OwnFr w B v fs) (o : Obj) : OwnFr (w.alloc o) B v fs := h.below (bl_alloc (bl_refl w) o)
theorem OwnFr.drewN {w : World} {B : Nat} {v : Value} {fs : List Fr} (h : OwnFr w B v fs) (n : Nat) : OwnFr (w.drewN n) B v fs := h
theorem OwnFr.drew {w : World} {B : Nat} {v : Value} {fs : List Fr} (h : OwnFr w B v fs) : OwnFr w.drew B v fs := h
theorem OwnFr.clip {w : World} {B : Nat} {a : Option Addr} {n cap : Nat} {fs : List Fr} (h : OwnFr w B (.slice a n cap) fs) : OwnFr w B (.slice a n n) fs := by
  obtain ⟨a', cap', e, hl, h0, h⟩ := h
  injection e with e1 e2 e3
  subst e1 e2
  exact ⟨a, fs.length, rfl, Nat.le_refl _, fun e => ⟨(h0 e).1, (h0 e).1⟩, h⟩
theorem OwnFr.form {w : World} {B : Nat} {v : Value} {fs : List Fr} (h : OwnFr w B v fs) : ∃ a cap, v = .slice a fs.length cap ∧ fs.length ≤ cap ∧ (a = none → fs.length = 0) := by
  obtain ⟨a, cap, e, hl, h0, h⟩ := h
  exact ⟨a, cap, e, hl, fun e => (h0 e).1⟩
set_option maxHeartbeats 1000000 in
theorem copiedL_c (cn cd : Int) (v : Value) (fs : List Fr) (w : World) (hI : FracsAt w v fs) (hn : fs.length ≤ 4000000) :
    Calls Try.prog 87 #[.agg #[.int .i64 cn, .int .i64 cd, v]] w fun e w' => ∃ a, e = .returned (.agg #[.int .i64 cn, .int .i64 cd, .slice a fs.length fs.length]) ∧ OwnFr w' w.heap.size (.slice a fs.length fs.length) fs ∧ Below w.heap.size w w' := by
  obtain ⟨a, cap, rfl, hcap, h⟩ := id hI
  have HI := Lib.hid hI
  have hnr : ∀ Y, Below w.heap.size w Y → FracsAt Y (.slice a fs.length cap) fs := fun Y hY => hI.below hY
  have Hnr := Lib.hid hnr
  clear hI hnr h
  go_enter Try.func87, Try.ntmps87
  go_wp2_with fail
  go_region_held3 (fun w' => w'.cell? ⟨w.heap.size, 0, none⟩ = some (.int .i64 cn) ∧ w'.cell? ⟨w.heap.size, 1, none⟩ = some (.int .i64 cd) ∧ w'.cell? ⟨w.heap.size, 2, none⟩ = some (.slice a fs.length cap)) (go_keep)
    (first | (go_at_call 95; refine (cloneF_c _ fs _ (Hnr.out _ (by repeat' (first | with_reducible exact bl_refl _ | with_reducible apply bl_alloc | with_reducible apply bl_drewN | with_reducible apply bl_drew | with_reducible apply bl_set | with_reducible refine bl_call (by assumption) ?_ | (simp; done) | (simp; omega) | omega))) hn).mono ?_; rintro e w1 ⟨v1, rfl, hown, hb1⟩; obtain ⟨a1, cap1, rfl, hcap1, ha1⟩ := hown.fr.form; have hzw1_0 : w.heap.size < w1.heap.size := (by have hzz := hb1.size; (try simp at hzz); omega); have hzw1_1 : w.heap.size + 1 < w1.heap.size := (by have hzz := hb1.size; (try simp at hzz); omega); have Lw1 := Locals.call hb1 (L := [(⟨w.heap.size, 0, none⟩, .int .i64 cn), (⟨w.heap.size, 1, none⟩, .int .i64 cd), (⟨w.heap.size, 2, none⟩, .slice a fs.length cap), (⟨w.heap.size + 1, 0, none⟩, .int .i64 0), (⟨w.heap.size + 1, 1, none⟩, .int .i64 0), (⟨w.heap.size + 1, 2, none⟩, .slice none 0 0)]) (by simp only [Locals]; repeat' (first | exact trivial | apply And.intro) <;> go_simp); obtain ⟨⟨cw1_0, fw1_0⟩, ⟨cw1_1, fw1_1⟩, ⟨cw1_2, fw1_2⟩, ⟨cw1_3, fw1_3⟩, ⟨cw1_4, fw1_4⟩, ⟨cw1_5, fw1_5⟩, -⟩ := Lw1) | (go_at_call 88; refine (clipF_c _ _ _ _ hcap1 hn ha1).mono ?_; rintro e w' ⟨rfl, rfl⟩))
  have hown' := (hown.fr.clip).low (B' := w.heap.size + 2) (by simp)
  go_wp2_with fail
  refine bodyPost_ret (v := .agg #[.int .i64 cn, .int .i64 cd, .slice a1 fs.length fs.length]) (by simp only [results, Try.results87]; go_simp) rfl ⟨a1, rfl, (((hown'.set (by simp) _).set (by simp) _).set (by simp) _).low (by omega), (by repeat' (first | with_reducible exact bl_refl _ | with_reducible apply bl_alloc | with_reducible apply bl_drewN | with_reducible apply bl_drew | with_reducible apply bl_set | with_reducible refine bl_call (by assumption) ?_ | (simp; done) | (simp; omega) | omega))⟩
end Go.Proofs.Ytnffoddeppimkaa
namespace Go.Proofs.Ytnffoddeppimkaa
open Go.RowKit
set_option linter.unusedVariables false
set_option linter.unusedSimpArgs false
structure Led where
  cap : Fr
  paid : List Fr
def Led.ok (l : Led) : Bool := ledOk l.cap l.paid
def Led.zero : Led := ⟨Fr.zero, []⟩
def payL (l : Led) (f : Fr) : Led × Bool :=
  if l.ok && f.ok then (if Led.ok ⟨l.cap, l.paid ++ [f]⟩ then (⟨l.cap, l.paid ++ [f]⟩, true) else (l, false)) else (Led.zero, false)
theorem ledOk_len {cap : Fr} {fs : List Fr} (h : ledOk cap fs = true) : fs.length ≤ 8 := by
  simp [ledOk] at h; omega
theorem cells2 {w : World} {b : Nat} {x y : Value} (h0 : w.cell? ⟨b, 0, none⟩ = some x) (h1 : w.cell? ⟨b, 1, none⟩ = some y) : ∀ j u, [x, y][j]? = some u → w.cell? ((⟨b, 0, none⟩ : Addr).add j) = some u := by
  intro j u hu
  match j with
  | 0 => simp at hu; subst hu; exact h0
  | 1 => simp at hu; subst hu; exact h1
  | j + 2 => simp at hu
theorem OwnFr.nil (w : World) (B : Nat) : OwnFr w B (.slice none 0 0) [] := ⟨none, 0, rfl, Nat.le_refl _, fun _ => ⟨rfl, rfl⟩, .inl rfl⟩
theorem OwnFr.olds {w : World} {B : Nat} {ao : Option Addr} {n cap : Nat} {fs : List Fr} (h : OwnFr w B (.slice ao n cap) fs) : ∀ b, ao = some b → ∀ j u, (fcells fs)[j]? = some u → w.cell? (b.add j) = some u := by
  rintro b rfl j u hj
  obtain ⟨a', cap', e, hl, h0, _⟩ := id h
  injection e with e1 e2 e3
  subst e1 e2
  have hne : fs ≠ [] := by rintro rfl; simp [fcells] at hj
  exact h.reads.news hne j u hj
theorem grownF {w : World} {B : Nat} {v : Value} {fs : List Fr} {f : Fr} (h : w.ownsRow B 30 2 v (fs.length + 1) (fcells fs ++ [.int .i64 f.n, .int .i64 f.d])) :
    ∃ a cap, v = .slice a (fs.length + 1) cap ∧ fs.length + 1 ≤ cap ∧ (a = none → fs.length + 1 = 0) ∧ Hid (OwnFr w B (.slice a (fs.length + 1) cap) (fs ++ [f])) := by
  have h1 : OwnF w B v (fs ++ [f]) := by unfold OwnF; rw [List.length_append, fcells_append]; exact h
  have h2 := h1.fr
  obtain ⟨a, cap, e, hl, hn⟩ := h2.form
  subst e
  have hs : (fs ++ [f]).length = fs.length + 1 := by simp
  rw [hs] at hl hn h2 ⊢
  exact ⟨a, cap, rfl, hl, hn, Lib.hid h2⟩
set_option maxRecDepth 20000 in
set_option maxHeartbeats 2000000 in
theorem iLedgerPay_c (cn cd : Int) (v : Value) (fs : List Fr) (f : Fr) (w : World) (hI : FracsAt w v fs) :
    Calls Try.prog 80 #[.agg #[.int .i64 cn, .int .i64 cd, v], f.v] w fun e w' => ∃ v', e = .returned (.tuple #[.agg #[.int .i64 (payL ⟨⟨cn, cd⟩, fs⟩ f).1.cap.n, .int .i64 (payL ⟨⟨cn, cd⟩, fs⟩ f).1.cap.d, v'], .bool (payL ⟨⟨cn, cd⟩, fs⟩ f).2]) ∧
      OwnFr w' w.heap.size v' (payL ⟨⟨cn, cd⟩, fs⟩ f).1.paid ∧ Below w.heap.size w w' := by
  obtain ⟨a, cap, rfl, hcap, h⟩ := id hI
  have hnr : ∀ Y, Below w.heap.size w Y → FracsAt Y (.slice a fs.length cap) fs := fun Y hY => hI.below hY
  have Hnr := Lib.hid hnr
  clear hI hnr h
  obtain ⟨fn, fd⟩ := f
  simp only [Fr.v]
  cases hl : ledOk ⟨cn, cd⟩ fs
  · have hp : payL ⟨⟨cn, cd⟩, fs⟩ ⟨fn, fd⟩ = (Led.zero, false) := by unfold payL Led.ok; exact if_neg (by simp [hl])
    rw [hp]
    have Hl := Lib.hid hl
    clear hp hl
    go_enter Try.func80, Try.ntmps80
    go_wp2_with fail
    refine (iLedgerOk_c ⟨cn, cd⟩ _ fs _ (Hnr.out _ (by repeat' (first | with_reducible exact bl_refl _ | with_reducible apply bl_alloc | with_reducible apply bl_drewN | with_reducible apply bl_drew | with_reducible apply bl_set | with_reducible refine bl_call (by assumption) ?_ | (simp; done) | (simp; omega) | omega)))).mono ?_; rintro e w1 ⟨rfl, hb1⟩; rw [Hl.out]; have hzw1_0 : w.heap.size < w1.heap.size := (by have hzz := hb1.size; (try simp at hzz); omega); have hzw1_1 : w.heap.size + 1 < w1.heap.size := (by have hzz := hb1.size; (try simp at hzz); omega); have hzw1_2 : w.heap.size + 1 + 1 < w1.heap.size := (by have hzz := hb1.size; (try simp at hzz); omega); have Lw1 := Locals.call hb1 (L := [(⟨w.heap.size, 0, none⟩, .int .i64 cn), (⟨w.heap.size, 1, none⟩, .int .i64 cd), (⟨w.heap.size, 2, none⟩, .slice a fs.length cap), (⟨w.heap.size + 1, 0, none⟩, .int .i64 fn), (⟨w.heap.size + 1, 1, none⟩, .int .i64 fd), (⟨w.heap.size + 1 + 1, 0, none⟩, .int .i64 0), (⟨w.heap.size + 1 + 1, 1, none⟩, .int .i64 0), (⟨w.heap.size + 1 + 1, 2, none⟩, .slice none 0 0)]) (by simp only [Locals]; repeat' (first | exact trivial | apply And.intro) <;> go_simp); obtain ⟨⟨cw1_0, fw1_0⟩, ⟨cw1_1, fw1_1⟩, ⟨cw1_2, fw1_2⟩, ⟨cw1_3, fw1_3⟩, ⟨cw1_4, fw1_4⟩, ⟨cw1_5, fw1_5⟩, ⟨cw1_6, fw1_6⟩, ⟨cw1_7, fw1_7⟩, -⟩ := Lw1
    go_wp2_with fail
    refine bodyPost_ret (v := .tuple #[.agg #[.int .i64 0, .int .i64 0, .slice none 0 0], .bool false]) (by simp only [results, Try.results80]; go_simp) rfl ⟨_, rfl, OwnFr.nil _ _, (by repeat' (first | with_reducible exact bl_refl _ | with_reducible apply bl_alloc | with_reducible apply bl_drewN | with_reducible apply bl_drew | with_reducible apply bl_set | with_reducible refine bl_call (by assumption) ?_ | (simp; done) | (simp; omega) | omega))⟩
  · have hlen := ledOk_len hl
    have Hl := Lib.hid hl
    cases hf : fracOkB fn fd
    · have hp : payL ⟨⟨cn, cd⟩, fs⟩ ⟨fn, fd⟩ = (Led.zero, false) := by unfold payL Fr.ok; exact if_neg (by simp [hf])
      rw [hp]
      have Hf := Lib.hid hf
      clear hp hl hf
      go_enter Try.func80, Try.ntmps80
      go_wp2_with fail
      refine (iLedgerOk_c ⟨cn, cd⟩ _ fs _ (Hnr.out _ (by repeat' (first | with_reducible exact bl_refl _ | with_reducible apply bl_alloc | with_reducible apply bl_drewN | with_reducible apply bl_drew | with_reducible apply bl_set | with_reducible refine bl_call (by assumption) ?_ | (simp; done) | (simp; omega) | omega)))).mono ?_; rintro e w1 ⟨rfl, hb1⟩; rw [Hl.out]; have hzw1_0 : w.heap.size < w1.heap.size := (by have hzz := hb1.size; (try simp at hzz); omega); have hzw1_1 : w.heap.size + 1 < w1.heap.size := (by have hzz := hb1.size; (try simp at hzz); omega); have hzw1_2 : w.heap.size + 1 + 1 < w1.heap.size := (by have hzz := hb1.size; (try simp at hzz); omega); have Lw1 := Locals.call hb1 (L := [(⟨w.heap.size, 0, none⟩, .int .i64 cn), (⟨w.heap.size, 1, none⟩, .int .i64 cd), (⟨w.heap.size, 2, none⟩, .slice a fs.length cap), (⟨w.heap.size + 1, 0, none⟩, .int .i64 fn), (⟨w.heap.size + 1, 1, none⟩, .int .i64 fd), (⟨w.heap.size + 1 + 1, 0, none⟩, .int .i64 0), (⟨w.heap.size + 1 + 1, 1, none⟩, .int .i64 0), (⟨w.heap.size + 1 + 1, 2, none⟩, .slice none 0 0)]) (by simp only [Locals]; repeat' (first | exact trivial | apply And.intro) <;> go_simp); obtain ⟨⟨cw1_0, fw1_0⟩, ⟨cw1_1, fw1_1⟩, ⟨cw1_2, fw1_2⟩, ⟨cw1_3, fw1_3⟩, ⟨cw1_4, fw1_4⟩, ⟨cw1_5, fw1_5⟩, ⟨cw1_6, fw1_6⟩, ⟨cw1_7, fw1_7⟩, -⟩ := Lw1
      go_wp2_with fail
      refine (iFracOk_c _ _ _).mono ?_; rintro e w2 ⟨rfl, hb2⟩; rw [Hf.out]; have hzw2_0 : w.heap.size < w2.heap.size := (by have hzz := hb2.size; (try simp at hzz); omega); have hzw2_1 : w.heap.size + 1 < w2.heap.size := (by have hzz := hb2.size; (try simp at hzz); omega); have hzw2_2 : w.heap.size + 1 + 1 < w2.heap.size := (by have hzz := hb2.size; (try simp at hzz); omega); have Lw2 := Locals.call hb2 (L := [(⟨w.heap.size, 0, none⟩, .int .i64 cn), (⟨w.heap.size, 1, none⟩, .int .i64 cd), (⟨w.heap.size, 2, none⟩, .slice a fs.length cap), (⟨w.heap.size + 1, 0, none⟩, .int .i64 fn), (⟨w.heap.size + 1, 1, none⟩, .int .i64 fd), (⟨w.heap.size + 1 + 1, 0, none⟩, .int .i64 0), (⟨w.heap.size + 1 + 1, 1, none⟩, .int .i64 0), (⟨w.heap.size + 1 + 1, 2, none⟩, .slice none 0 0)]) (by simp only [Locals]; repeat' (first | exact trivial | apply And.intro) <;> go_simp); obtain ⟨⟨cw2_0, fw2_0⟩, ⟨cw2_1, fw2_1⟩, ⟨cw2_2, fw2_2⟩, ⟨cw2_3, fw2_3⟩, ⟨cw2_4, fw2_4⟩, ⟨cw2_5, fw2_5⟩, ⟨cw2_6, fw2_6⟩, ⟨cw2_7, fw2_7⟩, -⟩ := Lw2
      go_wp2_with fail
      refine bodyPost_ret (v := .tuple #[.agg #[.int .i64 0, .int .i64 0, .slice none 0 0], .bool false]) (by simp only [results, Try.results80]; go_simp) rfl ⟨_, rfl, OwnFr.nil _ _, (by repeat' (first | with_reducible exact bl_refl _ | with_reducible apply bl_alloc | with_reducible apply bl_drewN | with_reducible apply bl_drew | with_reducible apply bl_set | with_reducible refine bl_call (by assumption) ?_ | (simp; done) | (simp; omega) | omega))⟩
    · have Hf := Lib.hid hf
      obtain ⟨r, hr⟩ : ∃ r, ledOk ⟨cn, cd⟩ (fs ++ [⟨fn, fd⟩]) = r := ⟨_, rfl⟩
      have hp : payL ⟨⟨cn, cd⟩, fs⟩ ⟨fn, fd⟩ = cond r (⟨⟨cn, cd⟩, fs ++ [⟨fn, fd⟩]⟩, true) (⟨⟨cn, cd⟩, fs⟩, false) := by
        unfold payL Led.ok Fr.ok; rw [if_pos (by simp [hl, hf])]; simp only [hr]; cases r <;> rfl
      rw [hp]
      have Hr := Lib.hid hr
      clear hp hl hf hr
      obtain ⟨i0, hi, hz0, hz1, hz2⟩ := info_parts Try.infoFrac
      go_enter Try.func80, Try.ntmps80
      go_wp2_with fail
      refine (iLedgerOk_c ⟨cn, cd⟩ _ fs _ (Hnr.out _ (by repeat' (first | with_reducible exact bl_refl _ | with_reducible apply bl_alloc | with_reducible apply bl_drewN | with_reducible apply bl_drew | with_reducible apply bl_set | with_reducible refine bl_call (by assumption) ?_ | (simp; done) | (simp; omega) | omega)))).mono ?_; rintro e w1 ⟨rfl, hb1⟩; rw [Hl.out]; have hzw1_0 : w.heap.size < w1.heap.size := (by have hzz := hb1.size; (try simp at hzz); omega); have hzw1_1 : w.heap.size + 1 < w1.heap.size := (by have hzz := hb1.size; (try simp at hzz); omega); have hzw1_2 : w.heap.size + 1 + 1 < w1.heap.size := (by have hzz := hb1.size; (try simp at hzz); omega); have Lw1 := Locals.call hb1 (L := [(⟨w.heap.size, 0, none⟩, .int .i64 cn), (⟨w.heap.size, 1, none⟩, .int .i64 cd), (⟨w.heap.size, 2, none⟩, .slice a fs.length cap), (⟨w.heap.size + 1, 0, none⟩, .int .i64 fn), (⟨w.heap.size + 1, 1, none⟩, .int .i64 fd), (⟨w.heap.size + 1 + 1, 0, none⟩, .int .i64 0), (⟨w.heap.size + 1 + 1, 1, none⟩, .int .i64 0), (⟨w.heap.size + 1 + 1, 2, none⟩, .slice none 0 0)]) (by simp only [Locals]; repeat' (first | exact trivial | apply And.intro) <;> go_simp); obtain ⟨⟨cw1_0, fw1_0⟩, ⟨cw1_1, fw1_1⟩, ⟨cw1_2, fw1_2⟩, ⟨cw1_3, fw1_3⟩, ⟨cw1_4, fw1_4⟩, ⟨cw1_5, fw1_5⟩, ⟨cw1_6, fw1_6⟩, ⟨cw1_7, fw1_7⟩, -⟩ := Lw1
      go_wp2_with fail
      refine (iFracOk_c _ _ _).mono ?_; rintro e w2 ⟨rfl, hb2⟩; rw [Hf.out]; have hzw2_0 : w.heap.size < w2.heap.size := (by have hzz := hb2.size; (try simp at hzz); omega); have hzw2_1 : w.heap.size + 1 < w2.heap.size := (by have hzz := hb2.size; (try simp at hzz); omega); have hzw2_2 : w.heap.size + 1 + 1 < w2.heap.size := (by have hzz := hb2.size; (try simp at hzz); omega); have Lw2 := Locals.call hb2 (L := [(⟨w.heap.size, 0, none⟩, .int .i64 cn), (⟨w.heap.size, 1, none⟩, .int .i64 cd), (⟨w.heap.size, 2, none⟩, .slice a fs.length cap), (⟨w.heap.size + 1, 0, none⟩, .int .i64 fn), (⟨w.heap.size + 1, 1, none⟩, .int .i64 fd), (⟨w.heap.size + 1 + 1, 0, none⟩, .int .i64 0), (⟨w.heap.size + 1 + 1, 1, none⟩, .int .i64 0), (⟨w.heap.size + 1 + 1, 2, none⟩, .slice none 0 0)]) (by simp only [Locals]; repeat' (first | exact trivial | apply And.intro) <;> go_simp); obtain ⟨⟨cw2_0, fw2_0⟩, ⟨cw2_1, fw2_1⟩, ⟨cw2_2, fw2_2⟩, ⟨cw2_3, fw2_3⟩, ⟨cw2_4, fw2_4⟩, ⟨cw2_5, fw2_5⟩, ⟨cw2_6, fw2_6⟩, ⟨cw2_7, fw2_7⟩, -⟩ := Lw2
      go_wp2_with fail
      refine (copiedL_c _ _ _ fs _ (Hnr.out _ (by repeat' (first | with_reducible exact bl_refl _ | with_reducible apply bl_alloc | with_reducible apply bl_drewN | with_reducible apply bl_drew | with_reducible apply bl_set | with_reducible refine bl_call (by assumption) ?_ | (simp; done) | (simp; omega) | omega))) (by omega)).mono ?_; rintro e w3 ⟨a3, rfl, hown3, hb3⟩; have hzw3_0 : w.heap.size < w3.heap.size := (by have hzz := hb3.size; (try simp at hzz); omega); have hzw3_1 : w.heap.size + 1 < w3.heap.size := (by have hzz := hb3.size; (try simp at hzz); omega); have hzw3_2 : w.heap.size + 1 + 1 < w3.heap.size := (by have hzz := hb3.size; (try simp at hzz); omega); have Lw3 := Locals.call hb3 (L := [(⟨w.heap.size, 0, none⟩, .int .i64 cn), (⟨w.heap.size, 1, none⟩, .int .i64 cd), (⟨w.heap.size, 2, none⟩, .slice a fs.length cap), (⟨w.heap.size + 1, 0, none⟩, .int .i64 fn), (⟨w.heap.size + 1, 1, none⟩, .int .i64 fd), (⟨w.heap.size + 1 + 1, 0, none⟩, .int .i64 0), (⟨w.heap.size + 1 + 1, 1, none⟩, .int .i64 0), (⟨w.heap.size + 1 + 1, 2, none⟩, .slice none 0 0)]) (by simp only [Locals]; repeat' (first | exact trivial | apply And.intro) <;> go_simp); obtain ⟨⟨cw3_0, fw3_0⟩, ⟨cw3_1, fw3_1⟩, ⟨cw3_2, fw3_2⟩, ⟨cw3_3, fw3_3⟩, ⟨cw3_4, fw3_4⟩, ⟨cw3_5, fw3_5⟩, ⟨cw3_6, fw3_6⟩, ⟨cw3_7, fw3_7⟩, -⟩ := Lw3
      have hown3' := ((hown3.alloc (.cells #[.int .i64 cn, .int .i64 cd, .slice a3 fs.length fs.length] 33)).alloc (.cells #[.int .i64 fn, .int .i64 fd] 30)).olds
      have h3n : a3 = none → fs.length = 0 ∧ fs.length = 0 := by obtain ⟨x1, x2, x3, x4, x5, -⟩ := hown3; injection x3 with y1 y2 y3; subst y1; intro e; have := x5 e; omega
      have Hown3' := Lib.hid hown3'
      have H3n := Lib.hid h3n
      have Hown3 := Lib.hid hown3
      clear hown3' h3n hown3
      go_wp2_with (at_builtin; refine stop ?_)
      refine goon ?_
      refine wpList_append_grows _ rfl _ _ 31 rfl 30 i0 (.agg #[.int .i64 0, .int .i64 0]) 2 16 Try.underlying31 hi hz0 hz1 hz2 rfl (by decide) a3 fs.length fs.length (fcells fs) rfl H3n.out (fcells_length fs) Hown3'.out ⟨w3.heap.size + 1, 0, none⟩ 1 1 [.int .i64 fn, .int .i64 fd] rfl rfl (cells2 (by go_simp) (by go_simp)) (fcells_one [⟨fn, fd⟩]) (by omega) (by unfold maxLen; omega) (by omega) ?_
      intro v4 w4 hown4 hgrow4; have hb4 := Below.grown (bl_refl _) hgrow4 (Nat.le_refl _) (fun _ h => by cases h); have hzw4_0 : w.heap.size < w4.heap.size := (by have hzz := hb4.size; (try simp at hzz); omega); have hzw4_1 : w.heap.size + 1 + 1 < w4.heap.size := (by have hzz := hb4.size; (try simp at hzz); omega); have hzw4_2 : w3.heap.size < w4.heap.size := (by have hzz := hb4.size; (try simp at hzz); omega); have Lw4 := Locals.call hb4 (L := [(⟨w.heap.size, 0, none⟩, .int .i64 cn), (⟨w.heap.size, 1, none⟩, .int .i64 cd), (⟨w.heap.size, 2, none⟩, .slice a fs.length cap), (⟨w.heap.size + 1 + 1, 0, none⟩, .int .i64 0), (⟨w.heap.size + 1 + 1, 1, none⟩, .int .i64 0), (⟨w.heap.size + 1 + 1, 2, none⟩, .slice none 0 0), (⟨w3.heap.size, 0, none⟩, .int .i64 cn), (⟨w3.heap.size, 1, none⟩, .int .i64 cd), (⟨w3.heap.size, 2, none⟩, .slice a3 fs.length fs.length)]) (by simp only [Locals]; repeat' (first | exact trivial | apply And.intro) <;> go_simp); obtain ⟨⟨cw4_0, fw4_0⟩, ⟨cw4_1, fw4_1⟩, ⟨cw4_2, fw4_2⟩, ⟨cw4_3, fw4_3⟩, ⟨cw4_4, fw4_4⟩, ⟨cw4_5, fw4_5⟩, ⟨cw4_6, fw4_6⟩, ⟨cw4_7, fw4_7⟩, ⟨cw4_8, fw4_8⟩, -⟩ := Lw4; have Hown4 := Lib.hid hown4; clear hown4 hgrow4; obtain ⟨a4, cap4, rfl, h4l, h4n, Hfr4⟩ := grownF (f := ⟨fn, fd⟩) Hown4.out; have H4n := Lib.hid h4n; have Hb4 := Lib.hid hb4
      go_wp2_with fail
      refine (clipF_c a4 (fs.length + 1) cap4 _ h4l (by omega) H4n.out).mono ?_; rintro e w5 ⟨rfl, rfl⟩
      have Hfr4' : Hid (OwnFr (w4.setCell ⟨w3.heap.size, 2, none⟩ (.slice a4 (fs.length + 1) (fs.length + 1))) w3.heap.size (.slice a4 (fs.length + 1) (fs.length + 1)) (fs ++ [⟨fn, fd⟩])) := Lib.hid ((Hfr4.out.clip.set (x := ⟨w3.heap.size, 2, none⟩) (by simp; omega) _).low (by simp; omega))
      go_wp2_with fail
      refine (iLedgerOk_c ⟨cn, cd⟩ _ _ _ Hfr4'.out.reads).mono ?_; rintro e w6 ⟨rfl, hb6⟩; rw [Hr.out]; have hzw6_0 : w.heap.size < w6.heap.size := (by have hzz := hb6.size; (try simp at hzz); omega); have hzw6_1 : w.heap.size + 1 + 1 < w6.heap.size := (by have hzz := hb6.size; (try simp at hzz); omega); have hzw6_2 : w3.heap.size < w6.heap.size := (by have hzz := hb6.size; (try simp at hzz); omega); have Lw6 := Locals.call hb6 (L := [(⟨w.heap.size, 0, none⟩, .int .i64 cn), (⟨w.heap.size, 1, none⟩, .int .i64 cd), (⟨w.heap.size, 2, none⟩, .slice a fs.length cap), (⟨w.heap.size + 1 + 1, 0, none⟩, .int .i64 0), (⟨w.heap.size + 1 + 1, 1, none⟩, .int .i64 0), (⟨w.heap.size + 1 + 1, 2, none⟩, .slice none 0 0), (⟨w3.heap.size, 0, none⟩, .int .i64 cn), (⟨w3.heap.size, 1, none⟩, .int .i64 cd), (⟨w3.heap.size, 2, none⟩, .slice a4 (fs.length + 1) (fs.length + 1))]) (by simp only [Locals]; repeat' (first | exact trivial | apply And.intro) <;> go_simp); obtain ⟨⟨cw6_0, fw6_0⟩, ⟨cw6_1, fw6_1⟩, ⟨cw6_2, fw6_2⟩, ⟨cw6_3, fw6_3⟩, ⟨cw6_4, fw6_4⟩, ⟨cw6_5, fw6_5⟩, ⟨cw6_6, fw6_6⟩, ⟨cw6_7, fw6_7⟩, ⟨cw6_8, fw6_8⟩, -⟩ := Lw6
      have Hfr6 := Lib.hid (Hfr4'.out.below hb6)
      cases r
      · go_wp2_with fail
        refine (copiedL_c _ _ _ fs _ (Hnr.out _ (by repeat' (first | with_reducible exact bl_refl _ | with_reducible apply bl_alloc | with_reducible apply bl_drewN | with_reducible apply bl_drew | with_reducible apply bl_set | with_reducible refine bl_call (by assumption) ?_ | (simp; done) | (simp; omega) | omega))) (by omega)).mono ?_; rintro e w7 ⟨a7, rfl, hown7, hb7⟩; have hzw7_0 : w.heap.size + 1 + 1 < w7.heap.size := (by have hzz := hb7.size; (try simp at hzz); omega); have Lw7 := Locals.call hb7 (L := [(⟨w.heap.size + 1 + 1, 0, none⟩, .int .i64 0), (⟨w.heap.size + 1 + 1, 1, none⟩, .int .i64 0), (⟨w.heap.size + 1 + 1, 2, none⟩, .slice none 0 0)]) (by simp only [Locals]; repeat' (first | exact trivial | apply And.intro) <;> go_simp); obtain ⟨⟨cw7_0, fw7_0⟩, ⟨cw7_1, fw7_1⟩, ⟨cw7_2, fw7_2⟩, -⟩ := Lw7
        have Hown7 := Lib.hid hown7; clear hown7
        go_wp2_with fail
        refine bodyPost_ret (v := .tuple #[.agg #[.int .i64 cn, .int .i64 cd, .slice a7 fs.length fs.length], .bool false]) (by simp only [results, Try.results80]; go_simp) rfl ⟨_, rfl, (((Hown7.out.set (by (try simp); omega) _).set (by (try simp); omega) _).set (by (try simp); omega) _).low (by (try simp); omega), (by repeat' (first | with_reducible exact bl_refl _ | with_reducible apply bl_alloc | with_reducible apply bl_drewN | with_reducible apply bl_drew | with_reducible apply bl_set | with_reducible refine bl_call (by assumption) ?_ | (simp; done) | (simp; omega) | omega))⟩
      · go_wp2_with fail
        refine bodyPost_ret (v := .tuple #[.agg #[.int .i64 cn, .int .i64 cd, .slice a4 (fs.length + 1) (fs.length + 1)], .bool true]) (by simp only [results, Try.results80]; go_simp) rfl ⟨_, rfl, (((Hfr6.out.set (by (try simp); omega) _).set (by (try simp); omega) _).set (by (try simp); omega) _).low (by (try simp); omega), (by repeat' (first | with_reducible exact bl_refl _ | with_reducible apply bl_alloc | with_reducible apply bl_drewN | with_reducible apply bl_drew | with_reducible apply bl_set | with_reducible refine bl_call (by assumption) ?_ | (simp; done) | (simp; omega) | omega))⟩
end Go.Proofs.Ytnffoddeppimkaa
namespace Go.Proofs.Ytnffoddeppimkaa
open Go.RowKit Go.Proofs.YtnffoddeppimkaaW.PrintWords
set_option linter.unusedVariables false
set_option linter.unusedSimpArgs false
theorem FracsAt.ofC {α : Type} {f : α → Int × Int} {w : World} {A : Option Addr} {xs : List α} {c : Nat} (h : Kd.C (Kd.iso (Kd.pair (Kd.int .i64) (Kd.int .i64)) f) w A xs.length xs) (hc : xs.length ≤ c) :
    FracsAt w (.slice A xs.length c) (xs.map fun x => ⟨(f x).1, (f x).2⟩) := by
  refine ⟨A, c, by simp, by simpa using hc, ?_⟩
  cases xs with
  | nil => exact .inl rfl
  | cons x0 r =>
    right
    obtain ⟨ad, rfl, hx⟩ := h.2.2 (by simp)
    have hcell : ∀ j p, (x0 :: r)[j]? = some p → w.cell? (ad.add (j * 2 + 0)) = some (.int .i64 (f p).1) ∧ w.cell? (ad.add (j * 2 + 1)) = some (.int .i64 (f p).2) := by
      intro j p hp
      obtain ⟨c', _, hK, hcc⟩ := hx j p hp
      obtain ⟨_, _, rfl, rfl, rfl⟩ := hK
      exact ⟨hcc 0 _ rfl, hcc 1 _ rfl⟩
    obtain ⟨b, off, sp⟩ := ad
    have hsp : sp = none := by simpa [Addr.add] using World.cell?_spot (hcell 0 x0 rfl).1
    subst hsp
    refine ⟨b, off, rfl, fun i g hg => ?_⟩
    rw [List.getElem?_map] at hg
    obtain ⟨p, hp, rfl⟩ := Option.map_eq_some_iff.1 hg
    obtain ⟨h1, h2⟩ := hcell i p hp
    rw [show (⟨b, off, none⟩ : Addr).add (i * 2 + 0) = ⟨b, off + i * 2, none⟩ from by simp [Addr.add]] at h1
    rw [show (⟨b, off, none⟩ : Addr).add (i * 2 + 1) = ⟨b, off + i * 2 + 1, none⟩ from by simp [Addr.add]; omega] at h2
    exact ⟨h1, h2⟩
set_option maxHeartbeats 1000000 in
theorem iLedgerCan_c (cn cd : Int) (v : Value) (fs : List Fr) (fn fd : Int) (w : World) (hI : FracsAt w v fs) :
    Calls Try.prog 69 #[.agg #[.int .i64 cn, .int .i64 cd, v], .agg #[.int .i64 fn, .int .i64 fd]] w fun e w' => e = .returned (.bool (payL ⟨⟨cn, cd⟩, fs⟩ ⟨fn, fd⟩).2) ∧ Below w.heap.size w w' := by
  have hcon := fun W hW => iLedgerPay_c cn cd v fs ⟨fn, fd⟩ W hW
  have hb : Below w.heap.size w ((w.alloc (.cells #[.int .i64 cn, .int .i64 cd, v] 33)).alloc (.cells #[.int .i64 fn, .int .i64 fd] 30)) := (by repeat' (first | with_reducible exact bl_refl _ | with_reducible apply bl_alloc | with_reducible apply bl_drewN | with_reducible apply bl_drew | with_reducible apply bl_set | with_reducible refine bl_call (by assumption) ?_ | (simp; done) | (simp; omega) | omega))
  have HI := Lib.hid (hI.below hb)
  obtain ⟨⟨⟨⟨pn, pd⟩, paid⟩, ok⟩, hp⟩ : ∃ p, payL ⟨⟨cn, cd⟩, fs⟩ ⟨fn, fd⟩ = p := ⟨_, rfl⟩
  rw [hp] at hcon ⊢
  simp only [Fr.v] at hcon
  have Hcon := Lib.hid hcon
  clear hb hI hp hcon
  go_enter Try.func69, Try.ntmps69
  go_wp2_with fail
  refine (Hcon.out _ HI.out).mono ?_; rintro e w1 ⟨v', rfl, ho, hb1⟩
  obtain ⟨av, capv, rfl, -⟩ := ho.form
  clear ho
  go_wp2_with fail
  go_ret
  exact ⟨rfl, (by repeat' (first | with_reducible exact bl_refl _ | with_reducible apply bl_alloc | with_reducible apply bl_drewN | with_reducible apply bl_drew | with_reducible apply bl_set | with_reducible refine bl_call (by assumption) ?_ | (simp; done) | (simp; omega) | omega))⟩
end Go.Proofs.Ytnffoddeppimkaa
namespace Go.Proofs.Ytnffoddeppimkaa
open Go.RowKit Go.Proofs.YtnffoddeppimkaaW.PrintWords
set_option linter.unusedVariables false
set_option linter.unusedSimpArgs false
theorem rd_nat (l : List Int) (i : Nat) (h : i < l.length) : rd l (i : Int) = l[i] := by simp [rd, List.getD_eq_getElem?_getD, h]
theorem wrap_succ (i n : Nat) (h : i < n) (hn : n ≤ 35184372088832) : wrap64 ((i : Int) + 1) = ((i + 1 : Nat) : Int) := by unfold wrap64; omega
theorem drop_at {α : Type} (l : List α) (i : Nat) (h : i < l.length) : l.drop i = l[i] :: l.drop (i + 1) := List.drop_eq_getElem_cons h
theorem pos_succ {d K : Nat} (h : d < K) : ∃ m, K = m + 1 := ⟨K - 1, by omega⟩
theorem toNat_nat (i : Nat) : (i : Int).toNat = i := Int.toNat_natCast i
theorem map_inj' {α β : Type} {f : α → β} (hf : ∀ a b, f a = f b → a = b) : ∀ {l m : List α}, l.map f = m.map f → l = m
  | [], [], _ => rfl
  | [], _ :: _, h => by simp at h
  | _ :: _, [], h => by simp at h
  | a :: l, b :: m, h => by
    simp only [List.map_cons, List.cons.injEq] at h
    rw [hf _ _ h.1, map_inj' hf h.2]
end Go.Proofs.Ytnffoddeppimkaa
namespace Go.Proofs.Ytnffoddeppimkaa.P
open Go.RowKit Go.Proofs.YtnffoddeppimkaaW.PrintWords Go.Proofs.YtnffoddeppimkaaW.PrintLast Go.Proofs.YtnffoddeppimkaaW.PrintMore
attribute [local go_sem] max2_int min2_int max_two min_two max_three min_three max_four min_four
set_option linter.unusedVariables false
set_option linter.unusedSimpArgs false
def errW : Option Int → Value
  | none => .nilIface
  | some c => .iface 0 (.int .i64 c)
theorem errW_none : errW none = .nilIface := rfl
theorem errW_some (c : Int) : errW (some c) = .iface 0 (.int .i64 c) := rfl
theorem info3 : (Try.prog.info? 3).map (fun i => (i.zero, i.size, i.bytes)) = some (some (.int .i64 0), 1, 8) := by kernel_rfl
theorem info30 : (Try.prog.info? 30).map (fun i => (i.zero, i.size, i.bytes)) = some (some (.agg #[(.int .i64 0), (.int .i64 0)]), 2, 16) := by kernel_rfl
structure S30 where
  f0 : Int
  f1 : Int
def z30 : S30 := ⟨(0 : Int), (0 : Int)⟩
def k30 : Kd S30 := Kd.iso (Kd.pair (Kd.int .i64) (Kd.int .i64)) (fun x : S30 => (x.f0, x.f1))
theorem k30_open {w : World} {x : S30} {cs : List Value} (h : k30.K w x cs) : cs = [.int .i64 x.f0, .int .i64 x.f1] := by
  obtain ⟨_, _, rfl, rfl, rfl⟩ := h
  exact rfl
theorem k30_openM {w : World} {base : Nat} {ok : Nat → Prop} {x : S30} {cs : List Value} (h : k30.M w base ok x cs) : cs = [.int .i64 x.f0, .int .i64 x.f1] := by
  obtain ⟨_, _, rfl, rfl, rfl⟩ := h
  exact rfl
theorem k30_mkM (w : World) (base : Nat) (ok : Nat → Prop) (x : S30)  : k30.M w base ok x [.int .i64 x.f0, .int .i64 x.f1] := ⟨[.int .i64 x.f0], [.int .i64 x.f1], rfl, rfl, rfl⟩
def rd_T30 (xs : List S30) (i : Int) : S30 := xs.getD i.toNat z30
theorem at_T30 {w : World} {A : Option Addr} {n : Nat} {xs : List S30} (h : Kd.C k30 w A n xs) (i : Int) (h0 : 0 ≤ i) (h1 : i < n) : ∃ ad , A = some ad ∧ w.cell? (ad.add (i.toNat * 2)) = some (.int .i64 (rd_T30 xs i).f0) ∧ w.cell? ⟨(ad.add (i.toNat * 2)).block, (ad.add (i.toNat * 2)).off + 1, none⟩ = some (.int .i64 (rd_T30 xs i).f1) := by
  obtain ⟨ad, c, e, _, hK, hc0⟩ := Kd.C_get h z30 i h0 h1
  have hc : ∀ j u, c[j]? = some u → w.cell? (ad.add (i.toNat * 2 + j)) = some u := hc0
  obtain rfl := k30_open hK
  exact ⟨ad, e, hc 0 _ rfl, by rw [← add_field _ _ 1 (by omega)]; exact hc 1 _ rfl⟩
structure S23 where
  f0 : Int
  f1 : Int
def z23 : S23 := ⟨(0 : Int), (0 : Int)⟩
def k23 : Kd S23 := Kd.iso (Kd.pair (Kd.int .i64) (Kd.int .i64)) (fun x : S23 => (x.f0, x.f1))
theorem k23_open {w : World} {x : S23} {cs : List Value} (h : k23.K w x cs) : cs = [.int .i64 x.f0, .int .i64 x.f1] := by
  obtain ⟨_, _, rfl, rfl, rfl⟩ := h
  exact rfl
theorem k23_mk (w : World) (x : S23)  : k23.K w x [.int .i64 x.f0, .int .i64 x.f1] := ⟨[.int .i64 x.f0], [.int .i64 x.f1], rfl, rfl, rfl⟩
def rd_T23 (xs : List S23) (i : Int) : S23 := xs.getD i.toNat z23
theorem at_T23 {w : World} {A : Option Addr} {n : Nat} {xs : List S23} (h : Kd.C k23 w A n xs) (i : Int) (h0 : 0 ≤ i) (h1 : i < n) : ∃ ad , A = some ad ∧ w.cell? (ad.add (i.toNat * 2)) = some (.int .i64 (rd_T23 xs i).f0) ∧ w.cell? ⟨(ad.add (i.toNat * 2)).block, (ad.add (i.toNat * 2)).off + 1, none⟩ = some (.int .i64 (rd_T23 xs i).f1) := by
  obtain ⟨ad, c, e, _, hK, hc0⟩ := Kd.C_get h z23 i h0 h1
  have hc : ∀ j u, c[j]? = some u → w.cell? (ad.add (i.toNat * 2 + j)) = some u := hc0
  obtain rfl := k23_open hK
  exact ⟨ad, e, hc 0 _ rfl, by rw [← add_field _ _ 1 (by omega)]; exact hc 1 _ rfl⟩
end Go.Proofs.Ytnffoddeppimkaa.P
namespace Go.Proofs.Ytnffoddeppimkaa.YFnExactAskMay
open Go.ChangeShapes Go.WideShapes Go.ChangeAt Go.RowKit Go.WideElems Go.Proofs.YtnffoddeppimkaaW.PrintWords
set_option linter.unusedVariables false
set_option linter.unusedSimpArgs false
section
variable {H : Type} {enc : TypeId × Value → H} {w : World} {base : Nat} {spare : Nat → Bool} {held : Bool}
theorem open3 {n : Nat} {cs : List Value} {x : DataW H × List MemPlace} (h : DataW.trod enc Try.prog w base spare held n 3 cs = some x) : ∃ a : Int, cs = [.int .i64 a] ∧ (Lit.int .i64 a).wf = true := int_of Try.underlying3 h
theorem cells23 : Try.prog.cellsOf 23 = 2 := by kernel_rfl
theorem cells3 : Try.prog.cellsOf 3 = 1 := by kernel_rfl
set_option maxRecDepth 100000 in
theorem open23 {n : Nat} {cs : List Value} {x : DataW H × List MemPlace} (h : DataW.trod enc Try.prog w base spare held n 23 cs = some x) :
    ∃ (a_0 : Int) (a_1 : Int), cs = [.int .i64 a_0, .int .i64 a_1] ∧ (Lit.int .i64 a_0).wf = true ∧ (Lit.int .i64 a_1).wf = true := by
  obtain ⟨ys, n', _, _, hl, hlen, hf⟩ := DataW.trod_struct Try.underlying23 h
  rw [cells23] at hl
  match ys, hlen with
  | [y0, y1], _ =>
    match cs, hl with
    | [v0, v1], _ =>
      have g0 : DataW.trod enc Try.prog w base spare held n' 3 [v0] = some y0 := by have := hf 0 _ rfl; simpa [cells3] using this
      obtain ⟨a_0, e0, w_0⟩ := open3 g0
      simp only [List.cons.injEq, and_true] at e0
      subst e0
      have g1 : DataW.trod enc Try.prog w base spare held n' 3 [v1] = some y1 := by have := hf 1 _ rfl; simpa [cells3] using this
      obtain ⟨a_1, e1, w_1⟩ := open3 g1
      simp only [List.cons.injEq, and_true] at e1
      subst e1
      exact ⟨a_0, a_1, rfl, w_0, w_1⟩
theorem cells43 : Try.prog.cellsOf 43 = 4 := by kernel_rfl
set_option maxRecDepth 100000 in
theorem open43 {n : Nat} {cs : List Value} {x : DataW H × List MemPlace} (h : DataW.trod enc Try.prog w base spare held n 43 cs = some x) :
    ∃ (a_0 : Int) (a_1 : Int) (a_2_0 : Int) (a_2_1 : Int), cs = [.int .i64 a_0, .int .i64 a_1, .int .i64 a_2_0, .int .i64 a_2_1] ∧ (Lit.int .i64 a_0).wf = true ∧ (Lit.int .i64 a_1).wf = true ∧ (Lit.int .i64 a_2_0).wf = true ∧ (Lit.int .i64 a_2_1).wf = true := by
  obtain ⟨ys, n', _, _, hl, hlen, hf⟩ := DataW.trod_struct Try.underlying43 h
  rw [cells43] at hl
  match ys, hlen with
  | [y0, y1, y2], _ =>
    match cs, hl with
    | [v0, v1, v2, v3], _ =>
      have g0 : DataW.trod enc Try.prog w base spare held n' 3 [v0] = some y0 := by have := hf 0 _ rfl; simpa [cells3] using this
      obtain ⟨a_0, e0, w_0⟩ := open3 g0
      simp only [List.cons.injEq, and_true] at e0
      subst e0
      have g1 : DataW.trod enc Try.prog w base spare held n' 3 [v1] = some y1 := by have := hf 1 _ rfl; simpa [cells3] using this
      obtain ⟨a_1, e1, w_1⟩ := open3 g1
      simp only [List.cons.injEq, and_true] at e1
      subst e1
      have g2 : DataW.trod enc Try.prog w base spare held n' 23 [v2, v3] = some y2 := by have := hf 2 _ rfl; simpa [cells23] using this
      obtain ⟨a_2_0, a_2_1, e2, w_2_0, w_2_1⟩ := open23 g2
      simp only [List.cons.injEq, and_true] at e2
      obtain ⟨rfl, rfl⟩ := e2
      exact ⟨a_0, a_1, a_2_0, a_2_1, rfl, w_0, w_1, w_2_0, w_2_1⟩
theorem open25 {n : Nat} {v : Value} {x : DataW H × List MemPlace} (h : DataW.trod enc Try.prog w base spare held n 25 [v] = some x) :
    ∃ (A : Option Addr) (c : Nat) (l : (List Int)), v = .slice A l.length c ∧ l.length ≤ c ∧ Kd.C (Kd.int .i64) w A l.length l ∧ (l.length ≤ 9223372036854775807 ∧ ∀ y ∈ l, (Lit.int .i64 y).wf = true) := by
  obtain ⟨A, c, l, e, h1, h2, h3, h4⟩ := slice_of (w := w) (Kd.int .i64) (fun y : Int => (Lit.int .i64 y).wf = true) Try.underlying25 cells3 (fun n cs x hx => by obtain ⟨a, rfl, hw⟩ := open3 hx; exact ⟨a, rfl, hw⟩) h
  exact ⟨A, c, l, e, h1, h3, h2, h4⟩
theorem cells44 : Try.prog.cellsOf 44 = 4 := by kernel_rfl
theorem cells25 : Try.prog.cellsOf 25 = 1 := by kernel_rfl
set_option maxRecDepth 100000 in
theorem open44 {n : Nat} {cs : List Value} {x : DataW H × List MemPlace} (h : DataW.trod enc Try.prog w base spare held n 44 cs = some x) :
    ∃ (a_0 : Int) (a_1 : Int) (A_2 : Option Addr) (c_2 : Nat) (l_2 : (List Int)) (A_3 : Option Addr) (c_3 : Nat) (l_3 : (List Int)), cs = [.int .i64 a_0, .int .i64 a_1, .slice A_2 l_2.length c_2, .slice A_3 l_3.length c_3] ∧ l_2.length ≤ c_2 ∧ Kd.C (Kd.int .i64) w A_2 l_2.length l_2 ∧ l_3.length ≤ c_3 ∧ Kd.C (Kd.int .i64) w A_3 l_3.length l_3 ∧ (Lit.int .i64 a_0).wf = true ∧ (Lit.int .i64 a_1).wf = true ∧ (l_2.length ≤ 9223372036854775807 ∧ ∀ y ∈ l_2, (Lit.int .i64 y).wf = true) ∧ (l_3.length ≤ 9223372036854775807 ∧ ∀ y ∈ l_3, (Lit.int .i64 y).wf = true) := by
  obtain ⟨ys, n', _, _, hl, hlen, hf⟩ := DataW.trod_struct Try.underlying44 h
  rw [cells44] at hl
  match ys, hlen with
  | [y0, y1, y2, y3], _ =>
    match cs, hl with
    | [v0, v1, v2, v3], _ =>
      have g0 : DataW.trod enc Try.prog w base spare held n' 3 [v0] = some y0 := by have := hf 0 _ rfl; simpa [cells3] using this
      obtain ⟨a_0, e0, w_0⟩ := open3 g0
      simp only [List.cons.injEq, and_true] at e0
      subst e0
      have g1 : DataW.trod enc Try.prog w base spare held n' 3 [v1] = some y1 := by have := hf 1 _ rfl; simpa [cells3] using this
      obtain ⟨a_1, e1, w_1⟩ := open3 g1
      simp only [List.cons.injEq, and_true] at e1
      subst e1
      have g2 : DataW.trod enc Try.prog w base spare held n' 25 [v2] = some y2 := by have := hf 2 _ rfl; simpa [cells25] using this
      obtain ⟨A_2, c_2, l_2, e2, h1_2, h2_2, w_2⟩ := open25 g2
      subst e2
      have g3 : DataW.trod enc Try.prog w base spare held n' 25 [v3] = some y3 := by have := hf 3 _ rfl; simpa [cells25] using this
      obtain ⟨A_3, c_3, l_3, e3, h1_3, h2_3, w_3⟩ := open25 g3
      subst e3
      exact ⟨a_0, a_1, A_2, c_2, l_2, A_3, c_3, l_3, rfl, h1_2, h2_2, h1_3, h2_3, w_0, w_1, w_2, w_3⟩
theorem cells46 : Try.prog.cellsOf 46 = 9 := by kernel_rfl
set_option maxRecDepth 100000 in
theorem open46 {n : Nat} {cs : List Value} {x : DataW H × List MemPlace} (h : DataW.trod enc Try.prog w base spare held n 46 cs = some x) :
    ∃ (a_0_0 : Int) (a_0_1 : Int) (A_0_2 : Option Addr) (c_0_2 : Nat) (l_0_2 : (List Int)) (A_0_3 : Option Addr) (c_0_3 : Nat) (l_0_3 : (List Int)) (a_1_0 : Int) (a_1_1 : Int) (A_1_2 : Option Addr) (c_1_2 : Nat) (l_1_2 : (List Int)) (A_1_3 : Option Addr) (c_1_3 : Nat) (l_1_3 : (List Int)) (a_2 : Int), cs = [.int .i64 a_0_0, .int .i64 a_0_1, .slice A_0_2 l_0_2.length c_0_2, .slice A_0_3 l_0_3.length c_0_3, .int .i64 a_1_0, .int .i64 a_1_1, .slice A_1_2 l_1_2.length c_1_2, .slice A_1_3 l_1_3.length c_1_3, .int .i64 a_2] ∧ l_0_2.length ≤ c_0_2 ∧ Kd.C (Kd.int .i64) w A_0_2 l_0_2.length l_0_2 ∧ l_0_3.length ≤ c_0_3 ∧ Kd.C (Kd.int .i64) w A_0_3 l_0_3.length l_0_3 ∧ l_1_2.length ≤ c_1_2 ∧ Kd.C (Kd.int .i64) w A_1_2 l_1_2.length l_1_2 ∧ l_1_3.length ≤ c_1_3 ∧ Kd.C (Kd.int .i64) w A_1_3 l_1_3.length l_1_3 ∧ (Lit.int .i64 a_0_0).wf = true ∧ (Lit.int .i64 a_0_1).wf = true ∧ (l_0_2.length ≤ 9223372036854775807 ∧ ∀ y ∈ l_0_2, (Lit.int .i64 y).wf = true) ∧ (l_0_3.length ≤ 9223372036854775807 ∧ ∀ y ∈ l_0_3, (Lit.int .i64 y).wf = true) ∧ (Lit.int .i64 a_1_0).wf = true ∧ (Lit.int .i64 a_1_1).wf = true ∧ (l_1_2.length ≤ 9223372036854775807 ∧ ∀ y ∈ l_1_2, (Lit.int .i64 y).wf = true) ∧ (l_1_3.length ≤ 9223372036854775807 ∧ ∀ y ∈ l_1_3, (Lit.int .i64 y).wf = true) ∧ (Lit.int .i64 a_2).wf = true := by
  obtain ⟨ys, n', _, _, hl, hlen, hf⟩ := DataW.trod_struct Try.underlying46 h
  rw [cells46] at hl
  match ys, hlen with
  | [y0, y1, y2], _ =>
    match cs, hl with
    | [v0, v1, v2, v3, v4, v5, v6, v7, v8], _ =>
      have g0 : DataW.trod enc Try.prog w base spare held n' 44 [v0, v1, v2, v3] = some y0 := by have := hf 0 _ rfl; simpa [cells44] using this
      obtain ⟨a_0_0, a_0_1, A_0_2, c_0_2, l_0_2, A_0_3, c_0_3, l_0_3, e0, h1_0_2, h2_0_2, h1_0_3, h2_0_3, w_0_0, w_0_1, w_0_2, w_0_3⟩ := open44 g0
      simp only [List.cons.injEq, and_true] at e0
      obtain ⟨rfl, rfl, rfl, rfl⟩ := e0
      have g1 : DataW.trod enc Try.prog w base spare held n' 44 [v4, v5, v6, v7] = some y1 := by have := hf 1 _ rfl; simpa [cells44] using this
      obtain ⟨a_1_0, a_1_1, A_1_2, c_1_2, l_1_2, A_1_3, c_1_3, l_1_3, e1, h1_1_2, h2_1_2, h1_1_3, h2_1_3, w_1_0, w_1_1, w_1_2, w_1_3⟩ := open44 g1
      simp only [List.cons.injEq, and_true] at e1
      obtain ⟨rfl, rfl, rfl, rfl⟩ := e1
      have g2 : DataW.trod enc Try.prog w base spare held n' 3 [v8] = some y2 := by have := hf 2 _ rfl; simpa [cells3] using this
      obtain ⟨a_2, e2, w_2⟩ := open3 g2
      simp only [List.cons.injEq, and_true] at e2
      subst e2
      exact ⟨a_0_0, a_0_1, A_0_2, c_0_2, l_0_2, A_0_3, c_0_3, l_0_3, a_1_0, a_1_1, A_1_2, c_1_2, l_1_2, A_1_3, c_1_3, l_1_3, a_2, rfl, h1_0_2, h2_0_2, h1_0_3, h2_0_3, h1_1_2, h2_1_2, h1_1_3, h2_1_3, w_0_0, w_0_1, w_0_2, w_0_3, w_1_0, w_1_1, w_1_2, w_1_3, w_2⟩
instance inh23 : Inhabited P.S23 := ⟨P.z23⟩
theorem open47 {n : Nat} {v : Value} {x : DataW H × List MemPlace} (h : DataW.trod enc Try.prog w base spare held n 47 [v] = some x) :
    ∃ (A : Option Addr) (c : Nat) (l : (List P.S23)), v = .slice A l.length c ∧ l.length ≤ c ∧ Kd.C P.k23 w A l.length l ∧ (l.length ≤ 9223372036854775807 ∧ ∀ y ∈ l, (Lit.int .i64 y.f0).wf = true ∧ (Lit.int .i64 y.f1).wf = true) := by
  obtain ⟨A, c, l, e, h1, h2, h3, h4⟩ := slice_of (w := w) P.k23 (fun y : P.S23 => (Lit.int .i64 y.f0).wf = true ∧ (Lit.int .i64 y.f1).wf = true) Try.underlying47 cells23 (fun n cs x hx => by obtain ⟨a_0, a_1, hcs, hf⟩ := open23 hx; subst hcs; exact ⟨(⟨a_0, a_1⟩ : P.S23), P.k23_mk w (⟨a_0, a_1⟩ : P.S23) , hf⟩) h
  exact ⟨A, c, l, e, h1, h3, h2, h4⟩
theorem cells49 : Try.prog.cellsOf 49 = 3 := by kernel_rfl
theorem cells47 : Try.prog.cellsOf 47 = 1 := by kernel_rfl
set_option maxRecDepth 100000 in
theorem open49 {n : Nat} {cs : List Value} {x : DataW H × List MemPlace} (h : DataW.trod enc Try.prog w base spare held n 49 cs = some x) :
    ∃ (a_0_0 : Int) (a_0_1 : Int) (A_1 : Option Addr) (c_1 : Nat) (l_1 : (List P.S23)), cs = [.int .i64 a_0_0, .int .i64 a_0_1, .slice A_1 l_1.length c_1] ∧ l_1.length ≤ c_1 ∧ Kd.C P.k23 w A_1 l_1.length l_1 ∧ (Lit.int .i64 a_0_0).wf = true ∧ (Lit.int .i64 a_0_1).wf = true ∧ (l_1.length ≤ 9223372036854775807 ∧ ∀ y ∈ l_1, (Lit.int .i64 y.f0).wf = true ∧ (Lit.int .i64 y.f1).wf = true) := by
  obtain ⟨ys, n', _, _, hl, hlen, hf⟩ := DataW.trod_struct Try.underlying49 h
  rw [cells49] at hl
  match ys, hlen with
  | [y0, y1], _ =>
    match cs, hl with
    | [v0, v1, v2], _ =>
      have g0 : DataW.trod enc Try.prog w base spare held n' 23 [v0, v1] = some y0 := by have := hf 0 _ rfl; simpa [cells23] using this
      obtain ⟨a_0_0, a_0_1, e0, w_0_0, w_0_1⟩ := open23 g0
      simp only [List.cons.injEq, and_true] at e0
      obtain ⟨rfl, rfl⟩ := e0
      have g1 : DataW.trod enc Try.prog w base spare held n' 47 [v2] = some y1 := by have := hf 1 _ rfl; simpa [cells47] using this
      obtain ⟨A_1, c_1, l_1, e1, h1_1, h2_1, w_1⟩ := open47 g1
      subst e1
      exact ⟨a_0_0, a_0_1, A_1, c_1, l_1, rfl, h1_1, h2_1, w_0_0, w_0_1, w_1⟩
end
end Go.Proofs.Ytnffoddeppimkaa.YFnExactAskMay
namespace Go.Proofs.Ytnffoddeppimkaa.P
open Go.RowKit Go.Proofs.YtnffoddeppimkaaW.PrintWords Go.Proofs.YtnffoddeppimkaaW.PrintLast Go.Proofs.YtnffoddeppimkaaW.PrintMore
attribute [local go_sem] max2_int min2_int max_two min_two max_three min_three max_four min_four
set_option linter.unusedVariables false
set_option linter.unusedSimpArgs false
def laws_eqIntS.l0 : Nat → List Int → List Int → Int → Option (Bool)
  | 0, _, _, _ => none
  | k + 1, x0, x1, x5 => if x5 < (x0.length : Int) then (if 0 ≤ x5 then (if x5 < (x1.length : Int) then (if (rd x0 x5) = (rd x1 x5) then (laws_eqIntS.l0 k x0 x1 (wrap64 (x5 + 1))) else (some false)) else (none)) else (none)) else (some true)
def laws_eqIntS.f (k : Nat) (l0 : List Int) (l1 : List Int) : Option (Bool) := if (l0.length : Int) = (l1.length : Int) then (laws_eqIntS.l0 k l0 l1 0) else (none)
theorem laws_eqIntS.mono_l : ∀ k, (∀ y0 y1 y2, LeO (laws_eqIntS.l0 k y0 y1 y2) (laws_eqIntS.l0 (k + 1) y0 y1 y2))
  | 0 => fun _ _ _ r h => by simp [laws_eqIntS.l0] at h
  | k + 1 => by
    have ih0 := laws_eqIntS.mono_l k
    · intro y0 y1 y2
      unfold laws_eqIntS.l0
      repeat' first
      | (with_reducible exact ih0 _ _ _)
      | (with_reducible exact LeO.refl _)
      | (with_reducible exact LeO.none _)
      | (with_reducible refine LeO.ite ?_ ?_)
      | (with_reducible refine LeO.bind ?_ (fun _ => ?_))
      | exact ih0 _ _ _
      | exact LeO.none _
      | refine LeO.ite ?_ ?_
      | refine LeO.bind ?_ (fun _ => ?_)
theorem laws_eqIntS.mono : ∀ a0 a1 k, LeO (laws_eqIntS.f k a0 a1) (laws_eqIntS.f (k + 1) a0 a1) := by
  intro a0 a1 k
  have ih0 := laws_eqIntS.mono_l k
  unfold laws_eqIntS.f
  repeat' first
      | (with_reducible exact ih0 _ _ _)
      | (with_reducible exact LeO.refl _)
      | (with_reducible exact LeO.none _)
      | (with_reducible refine LeO.ite ?_ ?_)
      | (with_reducible refine LeO.bind ?_ (fun _ => ?_))
      | exact ih0 _ _ _
      | exact LeO.none _
      | refine LeO.ite ?_ ?_
      | refine LeO.bind ?_ (fun _ => ?_)
set_option maxHeartbeats 8000000 in
set_option maxRecDepth 100000 in
theorem laws_eqIntS.calls (k : Nat) (A0 : Option Addr) (c0 : Nat) (l0 : List Int) (A1 : Option Addr) (c1 : Nat) (l1 : List Int) (r : Bool) (w : World) (hr0 : Kd.C (Kd.int .i64) w A0 l0.length l0) (hc0 : l0.length ≤ c0) (hr1 : Kd.C (Kd.int .i64) w A1 l1.length l1) (hc1 : l1.length ≤ c1) (h : laws_eqIntS.f k l0 l1 = some r) :
    Calls Try.prog 27 #[.slice A0 l0.length c0, .slice A1 l1.length c1] w fun e w' => e = .returned (.bool r) ∧ Drawn0 w w' := by
  have HR0 := Aside0.mk hr0
  have HC0 := Aside0.mk hc0
  clear hr0 hc0
  have HR1 := Aside0.mk hr1
  have HC1 := Aside0.mk hc1
  clear hr1 hc1
  have H : (if (l0.length : Int) = (l1.length : Int) then (laws_eqIntS.l0 k l0 l1 0) else (none)) = some r := h
  clear h
  by_cases c3 : (l0.length : Int) = (l1.length : Int)
  · rw [if_pos c3] at H
    have c3b0 : ((l0.length : Int) == (l1.length : Int)) = true := beq_iff_eq.mpr c3
    have c3b1 : ((l0.length : Int) != (l1.length : Int)) = false := bne_eq_false_iff_eq.mpr c3
    have c3b2 : (l0.length == l1.length) = true := by first | simpa using c3 | (simp at c3 ⊢; omega)
    clear c3
    have H' := Aside0.mk H
    clear H
    go_enter Try.func27, Try.ntmps27
    go_wp2
    repeat (go_quiet (fail); try go_wp2)
    go_loopg [5] k (fun kq v5 w' => ∃ (x5_1 : Int), v5 = .int .i64 x5_1 ∧ Aside0 (laws_eqIntS.l0 kq l0 l1 x5_1 = some r) ∧ Aside0 (kq ≤ k) ∧ Drawn0 w w')
    case atStart => exact ⟨(0), (by first | rfl | (simp; done) | (simp [*]; done)), H', ⟨Nat.le_refl _⟩, by repeat (first | exact Drawn0.refl _ | apply Drawn0.step)⟩
    case round =>
      clear H'
      try clear c1
      try clear c2
      try clear p2
      try clear c3
      try clear c3b0
      try clear c3b1
      try clear c3b2
      obtain ⟨x5_1, rfl, HA, HK1, ⟨m1, rfl⟩⟩ := hrel
      cases gk with
      | zero => exact absurd HA.out (by simp [laws_eqIntS.l0])
      | succ k1 =>
        have H := HA.out
        clear HA
        simp only [laws_eqIntS.l0] at H
        by_cases c4 : x5_1 < (l0.length : Int)
        · rw [if_pos c4] at H
          have c4b0 : decide (x5_1 < (l0.length : Int)) = true := decide_eq_true c4
          clear c4
          by_cases c5 : 0 ≤ x5_1
          · rw [if_pos c5] at H
            have c5b0 : decide (0 ≤ x5_1) = true := decide_eq_true c5
            clear c5
            by_cases c6 : x5_1 < (l1.length : Int)
            · rw [if_pos c6] at H
              have c6b0 : decide (x5_1 < (l1.length : Int)) = true := decide_eq_true c6
              clear c6
              by_cases c7 : (rd l0 x5_1) = (rd l1 x5_1)
              · rw [if_pos c7] at H
                have c7b0 : ((rd l0 x5_1) == (rd l1 x5_1)) = true := beq_iff_eq.mpr c7
                have c7b1 : ((rd l0 x5_1) != (rd l1 x5_1)) = false := bne_eq_false_iff_eq.mpr c7
                clear c7
                have H' := Aside0.mk H
                clear H
                have p230 : 0 ≤ (x5_1 : Int) := of_decide_eq_true (by first | (with_reducible assumption) | assumption)
                have q230 : x5_1 < (l0.length : Int) := of_decide_eq_true (by first | (with_reducible assumption) | assumption)
                obtain ⟨ad230, e230, hx230_0⟩ := Kd.at_int HR0.out x5_1 p230 q230
                cases e230
                replace p230 := eq_true p230
                replace q230 := eq_true q230
                have p231 : 0 ≤ (x5_1 : Int) := of_decide_eq_true (by first | (with_reducible assumption) | assumption)
                have q231 : x5_1 < (l1.length : Int) := of_decide_eq_true (by first | (with_reducible assumption) | assumption)
                obtain ⟨ad231, e231, hx231_0⟩ := Kd.at_int HR1.out x5_1 p231 q231
                cases e231
                replace p231 := eq_true p231
                replace q231 := eq_true q231
                go_wp2
                repeat (go_quiet (fail); try go_wp2)
                go_roundg k1
                case measure => have := HK1.out; omega
                case rel => exact ⟨(wrap64 (x5_1 + 1)), (by first | rfl | (simp; done) | (simp [*]; done)), H', ⟨by have := HK1.out; omega⟩, by repeat (first | exact Drawn0.refl _ | apply Drawn0.step)⟩
              · rw [if_neg c7] at H
                have c7b0 : ((rd l0 x5_1) == (rd l1 x5_1)) = false := beq_eq_false_iff_ne.mpr c7
                have c7b1 : ((rd l0 x5_1) != (rd l1 x5_1)) = true := bne_iff_ne.mpr c7
                obtain rfl := Option.some.inj H
                have p230 : 0 ≤ (x5_1 : Int) := of_decide_eq_true (by first | (with_reducible assumption) | assumption)
                have q230 : x5_1 < (l0.length : Int) := of_decide_eq_true (by first | (with_reducible assumption) | assumption)
                obtain ⟨ad230, e230, hx230_0⟩ := Kd.at_int HR0.out x5_1 p230 q230
                cases e230
                replace p230 := eq_true p230
                replace q230 := eq_true q230
                have p231 : 0 ≤ (x5_1 : Int) := of_decide_eq_true (by first | (with_reducible assumption) | assumption)
                have q231 : x5_1 < (l1.length : Int) := of_decide_eq_true (by first | (with_reducible assumption) | assumption)
                obtain ⟨ad231, e231, hx231_0⟩ := Kd.at_int HR1.out x5_1 p231 q231
                cases e231
                replace p231 := eq_true p231
                replace q231 := eq_true q231
                go_wp2
                repeat (go_quiet (fail); try go_wp2)
                go_ret
                exact ⟨by first | rfl | (simp; done) | (simp [*]; done), by repeat (first | exact Drawn0.refl _ | apply Drawn0.step)⟩
            · rw [if_neg c6] at H
              exact absurd H (by simp)
          · rw [if_neg c5] at H
            exact absurd H (by simp)
        · rw [if_neg c4] at H
          have c4b0 : decide (x5_1 < (l0.length : Int)) = false := decide_eq_false c4
          clear c4
          obtain rfl := Option.some.inj H
          go_wp2
          repeat (go_quiet (fail); try go_wp2)
          go_ret
          exact ⟨by first | rfl | (simp; done) | (simp [*]; done), by repeat (first | exact Drawn0.refl _ | apply Drawn0.step)⟩
  · rw [if_neg c3] at H
    exact absurd H (by simp)
theorem laws_eqIntS.loop (l : List Int) (hn : l.length ≤ 35184372088832) : ∀ d i : Nat, i + d = l.length → ∀ K, d < K → laws_eqIntS.l0 K l l i = some true := by
  intro d
  induction d with
  | zero =>
    intro i hi K hK
    obtain ⟨K, rfl⟩ := pos_succ hK
    unfold laws_eqIntS.l0
    rw [if_neg (by omega)]
  | succ d ih =>
    intro i hi K hK
    obtain ⟨K, rfl⟩ := pos_succ hK
    unfold laws_eqIntS.l0
    rw [if_pos (by omega), if_pos (by omega), if_pos (by omega), if_pos rfl, wrap_succ i l.length (by omega) hn, ih (i + 1) (by omega) K (by omega)]
def laws_eqIntS_c.f (l0 : List Int) (l1 : List Int) : Option (Bool) := if l0.length ≤ 35184372088832 ∧ l0 = l1 then some true else none
theorem laws_eqIntS_c.ev (l0 : List Int) (l1 : List Int) (r : Bool) (h : laws_eqIntS_c.f l0 l1 = some r) : ∃ k, laws_eqIntS.f k l0 l1 = some r := by
  unfold laws_eqIntS_c.f at h
  split at h
  · rename_i hn
    obtain ⟨hn, rfl⟩ := hn
    refine ⟨l0.length + 1, ?_⟩
    unfold laws_eqIntS.f
    rw [if_pos rfl]
    exact (laws_eqIntS.loop l0 hn l0.length 0 (by omega) (l0.length + 1) (by omega)).trans h
  · cases h
theorem laws_eqIntS_c.calls (A0 : Option Addr) (c0 : Nat) (l0 : List Int) (A1 : Option Addr) (c1 : Nat) (l1 : List Int) (r : Bool) (w : World) (hr0 : Kd.C (Kd.int .i64) w A0 l0.length l0) (hc0 : l0.length ≤ c0) (hr1 : Kd.C (Kd.int .i64) w A1 l1.length l1) (hc1 : l1.length ≤ c1) (h : laws_eqIntS_c.f l0 l1 = some r) :
    Calls Try.prog 27 #[.slice A0 l0.length c0, .slice A1 l1.length c1] w fun e w' => e = .returned (.bool r) ∧ Drawn0 w w' := by
  obtain ⟨k, hk⟩ := laws_eqIntS_c.ev _ _ _ h
  apply laws_eqIntS.calls (k := k) (h := hk) <;> assumption
end Go.Proofs.Ytnffoddeppimkaa.P
namespace Go.Proofs.Ytnffoddeppimkaa.P
open Go.RowKit Go.Proofs.YtnffoddeppimkaaW.PrintWords Go.Proofs.YtnffoddeppimkaaW.PrintLast Go.Proofs.YtnffoddeppimkaaW.PrintMore
attribute [local go_sem] max2_int min2_int max_two min_two max_three min_three max_four min_four
set_option linter.unusedVariables false
set_option linter.unusedSimpArgs false
def laws_eqCol.f (a0_0 : Int) (a0_1 : Int) (l0_2 : List Int) (l0_3 : List Int) (a1_0 : Int) (a1_1 : Int) (l1_2 : List Int) (l1_3 : List Int) : Option (Bool) := if a0_0 = a1_0 then (if a0_1 = a1_1 then ((laws_eqIntS_c.f l0_2 l1_2).bind fun t234 => (if t234 = true then ((laws_eqIntS_c.f l0_3 l1_3).bind fun t235 => (if t235 = true then (some true) else (none))) else (none))) else (none)) else (none)
set_option maxHeartbeats 8000000 in
set_option maxRecDepth 100000 in
theorem laws_eqCol.calls (a0_0 : Int) (a0_1 : Int) (A0_2 : Option Addr) (c0_2 : Nat) (l0_2 : List Int) (A0_3 : Option Addr) (c0_3 : Nat) (l0_3 : List Int) (a1_0 : Int) (a1_1 : Int) (A1_2 : Option Addr) (c1_2 : Nat) (l1_2 : List Int) (A1_3 : Option Addr) (c1_3 : Nat) (l1_3 : List Int) (r : Bool) (w : World) (hr0_2 : Kd.C (Kd.int .i64) w A0_2 l0_2.length l0_2) (hc0_2 : l0_2.length ≤ c0_2) (hr0_3 : Kd.C (Kd.int .i64) w A0_3 l0_3.length l0_3) (hc0_3 : l0_3.length ≤ c0_3) (hr1_2 : Kd.C (Kd.int .i64) w A1_2 l1_2.length l1_2) (hc1_2 : l1_2.length ≤ c1_2) (hr1_3 : Kd.C (Kd.int .i64) w A1_3 l1_3.length l1_3) (hc1_3 : l1_3.length ≤ c1_3) (h : laws_eqCol.f a0_0 a0_1 l0_2 l0_3 a1_0 a1_1 l1_2 l1_3 = some r) :
    Calls Try.prog 45 #[.agg #[.int .i64 a0_0, .int .i64 a0_1, .slice A0_2 l0_2.length c0_2, .slice A0_3 l0_3.length c0_3], .agg #[.int .i64 a1_0, .int .i64 a1_1, .slice A1_2 l1_2.length c1_2, .slice A1_3 l1_3.length c1_3]] w fun e w' => e = .returned (.bool r) ∧ Below w.heap.size w w' := by
  have hu27 := Try.underlying27
  have HR0_2 := Aside0.mk hr0_2
  have HC0_2 := Aside0.mk hc0_2
  clear hr0_2 hc0_2
  have HR0_3 := Aside0.mk hr0_3
  have HC0_3 := Aside0.mk hc0_3
  clear hr0_3 hc0_3
  have HR1_2 := Aside0.mk hr1_2
  have HC1_2 := Aside0.mk hc1_2
  clear hr1_2 hc1_2
  have HR1_3 := Aside0.mk hr1_3
  have HC1_3 := Aside0.mk hc1_3
  clear hr1_3 hc1_3
  have HB := Aside0.mk (Below.refl w.heap.size w)
  have H : (if a0_0 = a1_0 then (if a0_1 = a1_1 then ((laws_eqIntS_c.f l0_2 l1_2).bind fun t234 => (if t234 = true then ((laws_eqIntS_c.f l0_3 l1_3).bind fun t235 => (if t235 = true then (some true) else (none))) else (none))) else (none)) else (none)) = some r := h
  clear h
  by_cases c3 : a0_0 = a1_0
  · rw [if_pos c3] at H
    have c3b0 : (a0_0 == a1_0) = true := beq_iff_eq.mpr c3
    have c3b1 : (a0_0 != a1_0) = false := bne_eq_false_iff_eq.mpr c3
    clear c3
    by_cases c4 : a0_1 = a1_1
    · rw [if_pos c4] at H
      have c4b0 : (a0_1 == a1_1) = true := beq_iff_eq.mpr c4
      have c4b1 : (a0_1 != a1_1) = false := bne_eq_false_iff_eq.mpr c4
      clear c4
      replace H := Option.bind_eq_some_iff.mp H
      obtain ⟨t234, A50, H⟩ := H
      replace H : (if t234 = true then ((laws_eqIntS_c.f l0_3 l1_3).bind fun t235 => (if t235 = true then (some true) else (none))) else (none)) = some r := H
      have A5 := Aside0.mk A50
      clear A50
      by_cases c6 : t234 = true
      · subst c6
        have H1 : ((laws_eqIntS_c.f l0_3 l1_3).bind fun t235 => (if t235 = true then (some true) else (none))) = some r := by rw [if_pos rfl] at H; exact H
        clear H
        have H := H1
        clear H1
        replace H := Option.bind_eq_some_iff.mp H
        obtain ⟨t235, A70, H⟩ := H
        replace H : (if t235 = true then (some true) else (none)) = some r := H
        have A7 := Aside0.mk A70
        clear A70
        by_cases c8 : t235 = true
        · subst c8
          have H1 : (some true) = some r := by rw [if_pos rfl] at H; exact H
          clear H
          have H := H1
          clear H1
          obtain rfl := Option.some.inj H
          go_enter Try.func45, Try.ntmps45
          go_wp2_with (first | ((with_reducible refine gate_dst (N := 2) rfl ?_); refine box_event ?hg (N := 2) ?hd (cs := #[.int .i64 a0_0, .int .i64 a0_1, .slice A0_2 l0_2.length c0_2, .slice A0_3 l0_3.length c0_3]) (t := 27) ?hr ?_; (case hd => rfl); (case hg => rfl); (case hr => first | (go_simp; done) | (go_simp; rfl)); intro gb232 hg w9 hbox hb; have n0_ := Aside0.mk (below_step (by repeat (first | (with_reducible first | exact HB.out | apply below_alloc | apply pw_below_drewN | apply below_drew1) | exact HB.out)) hb); have n1_ := Aside0.mk (hbox); have n2_ := Aside0.mk ((by rw [hg]; exact (below_size (by repeat (first | (with_reducible first | exact HB.out | apply below_alloc | apply pw_below_drewN | apply below_drew1) | exact HB.out))) : w.heap.size ≤ gb232)); have n3_ := Aside0.mk ((by rw [hg]; exact (below_size (by repeat (first | (with_reducible first | exact HB.out | apply below_alloc | apply pw_below_drewN | apply below_drew1) | exact HB.out))) : w.heap.size ≤ gb232)); clear HB; have HB := n0_; have BK232 := n1_; have GW232 := n2_; have GE232 := n3_; clear n0_ n1_ n2_ n3_; clear hb hbox hg) | ((with_reducible refine gate_dst (N := 3) rfl ?_); refine box_event ?hg (N := 3) ?hd (cs := #[.int .i64 a1_0, .int .i64 a1_1, .slice A1_2 l1_2.length c1_2, .slice A1_3 l1_3.length c1_3]) (t := 27) ?hr ?_; (case hd => rfl); (case hg => rfl); (case hr => first | (go_simp; done) | (go_simp; rfl)); intro gb233 hg w10 hbox hb; have n0_ := Aside0.mk (blk_below (g := gb232) (o := .cells #[.int .i64 a0_0, .int .i64 a0_1, .slice A0_2 l0_2.length c0_2, .slice A0_3 l0_3.length c0_3] 27 (0, 0)) (by (with_reducible repeat (first | refine blk_drewN ?_ _ | refine blk_drew ?_ | refine blk_alloc ?_ _)); exact BK232.out) hb); have n1_ := Aside0.mk (below_step (by repeat (first | (with_reducible first | exact HB.out | apply below_alloc | apply pw_below_drewN | apply below_drew1 | refine below_set ?_ GE232.out) | exact HB.out)) hb); have n2_ := Aside0.mk (hbox); have n3_ := Aside0.mk ((by rw [hg]; exact (below_size (by repeat (first | (with_reducible first | exact HB.out | apply below_alloc | apply pw_below_drewN | apply below_drew1 | refine below_set ?_ GE232.out) | exact HB.out))) : w.heap.size ≤ gb233)); have n4_ := Aside0.mk ((by rw [hg]; exact (below_size (by repeat (first | (with_reducible first | exact HB.out | apply below_alloc | apply pw_below_drewN | apply below_drew1 | refine below_set ?_ GE232.out) | exact HB.out))) : w.heap.size ≤ gb233)); have n5_ := Aside0.mk ((by rw [hg]; exact Nat.ne_of_lt (blk_lt (g := gb232) (o := .cells #[.int .i64 a0_0, .int .i64 a0_1, .slice A0_2 l0_2.length c0_2, .slice A0_3 l0_3.length c0_3] 27 (0, 0)) (by (with_reducible repeat (first | refine blk_drewN ?_ _ | refine blk_drew ?_ | refine blk_alloc ?_ _)); exact BK232.out)) : gb232 ≠ gb233)); have n6_ := Aside0.mk ((by rw [hg]; exact Nat.ne_of_gt (blk_lt (g := gb232) (o := .cells #[.int .i64 a0_0, .int .i64 a0_1, .slice A0_2 l0_2.length c0_2, .slice A0_3 l0_3.length c0_3] 27 (0, 0)) (by (with_reducible repeat (first | refine blk_drewN ?_ _ | refine blk_drew ?_ | refine blk_alloc ?_ _)); exact BK232.out)) : gb233 ≠ gb232)); clear BK232; clear HB; have BK232 := n0_; have HB := n1_; have BK233 := n2_; have GW233 := n3_; have GE233 := n4_; have NB232_233 := n5_; have NB233_232 := n6_; clear n0_ n1_ n2_ n3_ n4_ n5_ n6_; clear hb hbox hg; have hnb11 := NB232_233.out; have hnc11 := NB233_232.out; have hcz12_0 : w10.cell? ⟨gb232, 0, none⟩ = some (.int .i64 a0_0) := (blk_cell BK232.out 0).trans rfl; have hcz12_1 : w10.cell? ⟨gb232, 1, none⟩ = some (.int .i64 a0_1) := (blk_cell BK232.out 1).trans rfl; have hcz12_2 : w10.cell? ⟨gb232, 2, none⟩ = some (.slice A0_2 l0_2.length c0_2) := (blk_cell BK232.out 2).trans rfl; have hcz12_3 : w10.cell? ⟨gb232, 3, none⟩ = some (.slice A0_3 l0_3.length c0_3) := (blk_cell BK232.out 3).trans rfl; have hfz12_0 := blk_frozen BK232.out 0; have hfz12_1 := blk_frozen BK232.out 1; have hfz12_2 := blk_frozen BK232.out 2; have hfz12_3 := blk_frozen BK232.out 3; have hcz13_0 : w10.cell? ⟨gb233, 0, none⟩ = some (.int .i64 a1_0) := (blk_cell BK233.out 0).trans rfl; have hcz13_1 : w10.cell? ⟨gb233, 1, none⟩ = some (.int .i64 a1_1) := (blk_cell BK233.out 1).trans rfl; have hcz13_2 : w10.cell? ⟨gb233, 2, none⟩ = some (.slice A1_2 l1_2.length c1_2) := (blk_cell BK233.out 2).trans rfl; have hcz13_3 : w10.cell? ⟨gb233, 3, none⟩ = some (.slice A1_3 l1_3.length c1_3) := (blk_cell BK233.out 3).trans rfl; have hfz13_0 := blk_frozen BK233.out 0; have hfz13_1 := blk_frozen BK233.out 1; have hfz13_2 := blk_frozen BK233.out 2; have hfz13_3 := blk_frozen BK233.out 3) | ((with_reducible refine gate_callee (f := 27) rfl ?_); refine goesL_ (some 19) rfl rfl Try.func27 (by kernel_rfl) rfl #[.slice A0_2 l0_2.length c0_2, .slice A1_2 l1_2.length c1_2] rfl (by (try simp only [List.map_toArray, List.map_cons, List.map_nil]); first | done | rfl | (simp only [List.length_drop, List.length_take]; rfl)) ?_; (with_reducible refine (laws_eqIntS_c.calls _ _ l0_2 _ _ l1_2 true _ ?side1 ?side2 ?side3 ?side4 A5.out).mono ?_); (case side1 => repeat (first | exact (Kd.C_below HR0_2.out HB.out) | (with_reducible refine Kd.C_alloc ?_ _) | (with_reducible refine Kd.C_drewN ?_ _) | (with_reducible refine Kd.C_drew ?_))); (case side2 => exact HC0_2.out); (case side3 => repeat (first | exact (Kd.C_below HR1_2.out HB.out) | (with_reducible refine Kd.C_alloc ?_ _) | (with_reducible refine Kd.C_drewN ?_ _) | (with_reducible refine Kd.C_drew ?_))); (case side4 => exact HC1_2.out); rintro e w' ⟨rfl, ⟨nd, rfl⟩⟩; refine ⟨_, rfl, ?_⟩) | ((with_reducible refine gate_callee (f := 27) rfl ?_); refine goesL_ (some 25) rfl rfl Try.func27 (by kernel_rfl) rfl #[.slice A0_3 l0_3.length c0_3, .slice A1_3 l1_3.length c1_3] rfl (by (try simp only [List.map_toArray, List.map_cons, List.map_nil]); first | done | rfl | (simp only [List.length_drop, List.length_take]; rfl)) ?_; (with_reducible refine (laws_eqIntS_c.calls _ _ l0_3 _ _ l1_3 true _ ?side1 ?side2 ?side3 ?side4 A7.out).mono ?_); (case side1 => repeat (first | exact (Kd.C_below HR0_3.out (by repeat (first | (with_reducible first | exact HB.out | apply below_alloc | apply pw_below_drewN | apply below_drew1 | refine below_set ?_ GE232.out | refine below_set ?_ GE233.out) | exact HB.out))) | (with_reducible refine Kd.C_alloc ?_ _) | (with_reducible refine Kd.C_drewN ?_ _) | (with_reducible refine Kd.C_drew ?_))); (case side2 => exact HC0_3.out); (case side3 => repeat (first | exact (Kd.C_below HR1_3.out (by repeat (first | (with_reducible first | exact HB.out | apply below_alloc | apply pw_below_drewN | apply below_drew1 | refine below_set ?_ GE232.out | refine below_set ?_ GE233.out) | exact HB.out))) | (with_reducible refine Kd.C_alloc ?_ _) | (with_reducible refine Kd.C_drewN ?_ _) | (with_reducible refine Kd.C_drew ?_))); (case side4 => exact HC1_3.out); rintro e w' ⟨rfl, ⟨nd, rfl⟩⟩; refine ⟨_, rfl, ?_⟩))
          go_ret
          exact ⟨by first | rfl | (simp [errW_none, errW_some] <;> rfl) | (simp [*, errW_none, errW_some] <;> rfl), by repeat (first | (with_reducible first | exact HB.out | apply below_alloc | apply pw_below_drewN | apply below_drew1 | refine below_set ?_ GE232.out | refine below_set ?_ GE233.out) | exact HB.out)⟩
        · replace c8 := Bool.eq_false_iff.mpr c8
          subst c8
          have H1 : (none) = some r := by rw [if_neg (show ¬ (false = true) by decide)] at H; exact H
          clear H
          have H := H1
          clear H1
          exact absurd H (by simp)
      · replace c6 := Bool.eq_false_iff.mpr c6
        subst c6
        have H1 : (none) = some r := by rw [if_neg (show ¬ (false = true) by decide)] at H; exact H
        clear H
        have H := H1
        clear H1
        exact absurd H (by simp)
    · rw [if_neg c4] at H
      exact absurd H (by simp)
  · rw [if_neg c3] at H
    exact absurd H (by simp)
end Go.Proofs.Ytnffoddeppimkaa.P
namespace Go.Proofs.Ytnffoddeppimkaa.P
open Go.RowKit Go.Proofs.YtnffoddeppimkaaW.PrintWords Go.Proofs.YtnffoddeppimkaaW.PrintLast Go.Proofs.YtnffoddeppimkaaW.PrintMore
attribute [local go_sem] max2_int min2_int max_two min_two max_three min_three max_four min_four
set_option linter.unusedVariables false
set_option linter.unusedSimpArgs false
def laws_eqBatch.f (a0_0 : Int) (a0_1 : Int) (l0_2 : List Int) (l0_3 : List Int) (a0_4 : Int) (a0_5 : Int) (l0_6 : List Int) (l0_7 : List Int) (a0_8 : Int) (a1_0 : Int) (a1_1 : Int) (l1_2 : List Int) (l1_3 : List Int) (a1_4 : Int) (a1_5 : Int) (l1_6 : List Int) (l1_7 : List Int) (a1_8 : Int) : Option (Bool) := (laws_eqCol.f a0_0 a0_1 l0_2 l0_3 a1_0 a1_1 l1_2 l1_3).bind fun t238 => (if t238 = true then ((laws_eqCol.f a0_4 a0_5 l0_6 l0_7 a1_4 a1_5 l1_6 l1_7).bind fun t239 => (if t239 = true then (if a0_8 = a1_8 then (some true) else (none)) else (none))) else (none))
set_option maxHeartbeats 8000000 in
set_option maxRecDepth 100000 in
theorem laws_eqBatch.calls (a0_0 : Int) (a0_1 : Int) (A0_2 : Option Addr) (c0_2 : Nat) (l0_2 : List Int) (A0_3 : Option Addr) (c0_3 : Nat) (l0_3 : List Int) (a0_4 : Int) (a0_5 : Int) (A0_6 : Option Addr) (c0_6 : Nat) (l0_6 : List Int) (A0_7 : Option Addr) (c0_7 : Nat) (l0_7 : List Int) (a0_8 : Int) (a1_0 : Int) (a1_1 : Int) (A1_2 : Option Addr) (c1_2 : Nat) (l1_2 : List Int) (A1_3 : Option Addr) (c1_3 : Nat) (l1_3 : List Int) (a1_4 : Int) (a1_5 : Int) (A1_6 : Option Addr) (c1_6 : Nat) (l1_6 : List Int) (A1_7 : Option Addr) (c1_7 : Nat) (l1_7 : List Int) (a1_8 : Int) (r : Bool) (w : World) (hr0_2 : Kd.C (Kd.int .i64) w A0_2 l0_2.length l0_2) (hc0_2 : l0_2.length ≤ c0_2) (hr0_3 : Kd.C (Kd.int .i64) w A0_3 l0_3.length l0_3) (hc0_3 : l0_3.length ≤ c0_3) (hr0_6 : Kd.C (Kd.int .i64) w A0_6 l0_6.length l0_6) (hc0_6 : l0_6.length ≤ c0_6) (hr0_7 : Kd.C (Kd.int .i64) w A0_7 l0_7.length l0_7) (hc0_7 : l0_7.length ≤ c0_7) (hr1_2 : Kd.C (Kd.int .i64) w A1_2 l1_2.length l1_2) (hc1_2 : l1_2.length ≤ c1_2) (hr1_3 : Kd.C (Kd.int .i64) w A1_3 l1_3.length l1_3) (hc1_3 : l1_3.length ≤ c1_3) (hr1_6 : Kd.C (Kd.int .i64) w A1_6 l1_6.length l1_6) (hc1_6 : l1_6.length ≤ c1_6) (hr1_7 : Kd.C (Kd.int .i64) w A1_7 l1_7.length l1_7) (hc1_7 : l1_7.length ≤ c1_7) (h : laws_eqBatch.f a0_0 a0_1 l0_2 l0_3 a0_4 a0_5 l0_6 l0_7 a0_8 a1_0 a1_1 l1_2 l1_3 a1_4 a1_5 l1_6 l1_7 a1_8 = some r) :
    Calls Try.prog 18 #[.agg #[.int .i64 a0_0, .int .i64 a0_1, .slice A0_2 l0_2.length c0_2, .slice A0_3 l0_3.length c0_3, .int .i64 a0_4, .int .i64 a0_5, .slice A0_6 l0_6.length c0_6, .slice A0_7 l0_7.length c0_7, .int .i64 a0_8], .agg #[.int .i64 a1_0, .int .i64 a1_1, .slice A1_2 l1_2.length c1_2, .slice A1_3 l1_3.length c1_3, .int .i64 a1_4, .int .i64 a1_5, .slice A1_6 l1_6.length c1_6, .slice A1_7 l1_7.length c1_7, .int .i64 a1_8]] w fun e w' => e = .returned (.bool r) ∧ Below w.heap.size w w' := by
  have hu29 := Try.underlying29
  have hu27 := Try.underlying27
  have HR0_2 := Aside0.mk hr0_2
  have HC0_2 := Aside0.mk hc0_2
  clear hr0_2 hc0_2
  have HR0_3 := Aside0.mk hr0_3
  have HC0_3 := Aside0.mk hc0_3
  clear hr0_3 hc0_3
  have HR0_6 := Aside0.mk hr0_6
  have HC0_6 := Aside0.mk hc0_6
  clear hr0_6 hc0_6
  have HR0_7 := Aside0.mk hr0_7
  have HC0_7 := Aside0.mk hc0_7
  clear hr0_7 hc0_7
  have HR1_2 := Aside0.mk hr1_2
  have HC1_2 := Aside0.mk hc1_2
  clear hr1_2 hc1_2
  have HR1_3 := Aside0.mk hr1_3
  have HC1_3 := Aside0.mk hc1_3
  clear hr1_3 hc1_3
  have HR1_6 := Aside0.mk hr1_6
  have HC1_6 := Aside0.mk hc1_6
  clear hr1_6 hc1_6
  have HR1_7 := Aside0.mk hr1_7
  have HC1_7 := Aside0.mk hc1_7
  clear hr1_7 hc1_7
  have HB := Aside0.mk (Below.refl w.heap.size w)
  have H : ((laws_eqCol.f a0_0 a0_1 l0_2 l0_3 a1_0 a1_1 l1_2 l1_3).bind fun t238 => (if t238 = true then ((laws_eqCol.f a0_4 a0_5 l0_6 l0_7 a1_4 a1_5 l1_6 l1_7).bind fun t239 => (if t239 = true then (if a0_8 = a1_8 then (some true) else (none)) else (none))) else (none))) = some r := h
  clear h
  replace H := Option.bind_eq_some_iff.mp H
  obtain ⟨t238, A30, H⟩ := H
  replace H : (if t238 = true then ((laws_eqCol.f a0_4 a0_5 l0_6 l0_7 a1_4 a1_5 l1_6 l1_7).bind fun t239 => (if t239 = true then (if a0_8 = a1_8 then (some true) else (none)) else (none))) else (none)) = some r := H
  have A3 := Aside0.mk A30
  clear A30
  by_cases c4 : t238 = true
  · subst c4
    have H1 : ((laws_eqCol.f a0_4 a0_5 l0_6 l0_7 a1_4 a1_5 l1_6 l1_7).bind fun t239 => (if t239 = true then (if a0_8 = a1_8 then (some true) else (none)) else (none))) = some r := by rw [if_pos rfl] at H; exact H
    clear H
    have H := H1
    clear H1
    replace H := Option.bind_eq_some_iff.mp H
    obtain ⟨t239, A50, H⟩ := H
    replace H : (if t239 = true then (if a0_8 = a1_8 then (some true) else (none)) else (none)) = some r := H
    have A5 := Aside0.mk A50
    clear A50
    by_cases c6 : t239 = true
    · subst c6
      have H1 : (if a0_8 = a1_8 then (some true) else (none)) = some r := by rw [if_pos rfl] at H; exact H
      clear H
      have H := H1
      clear H1
      by_cases c7 : a0_8 = a1_8
      · rw [if_pos c7] at H
        have c7b0 : (a0_8 == a1_8) = true := beq_iff_eq.mpr c7
        have c7b1 : (a0_8 != a1_8) = false := bne_eq_false_iff_eq.mpr c7
        clear c7
        obtain rfl := Option.some.inj H
        go_enter Try.func18, Try.ntmps18
        go_wp2_with (first | ((with_reducible refine gate_dst (N := 2) rfl ?_); refine box_event ?hg (N := 2) ?hd (cs := #[.int .i64 a0_0, .int .i64 a0_1, .slice A0_2 l0_2.length c0_2, .slice A0_3 l0_3.length c0_3, .int .i64 a0_4, .int .i64 a0_5, .slice A0_6 l0_6.length c0_6, .slice A0_7 l0_7.length c0_7, .int .i64 a0_8]) (t := 29) ?hr ?_; (case hd => rfl); (case hg => rfl); (case hr => first | (go_simp; done) | (go_simp; rfl)); intro gb236 hg w8 hbox hb; have n0_ := Aside0.mk (below_step (by repeat (first | (with_reducible first | exact HB.out | apply below_alloc | apply pw_below_drewN | apply below_drew1) | exact HB.out)) hb); have n1_ := Aside0.mk (hbox); have n2_ := Aside0.mk ((by rw [hg]; exact (below_size (by repeat (first | (with_reducible first | exact HB.out | apply below_alloc | apply pw_below_drewN | apply below_drew1) | exact HB.out))) : w.heap.size ≤ gb236)); have n3_ := Aside0.mk ((by rw [hg]; exact (below_size (by repeat (first | (with_reducible first | exact HB.out | apply below_alloc | apply pw_below_drewN | apply below_drew1) | exact HB.out))) : w.heap.size ≤ gb236)); clear HB; have HB := n0_; have BK236 := n1_; have GW236 := n2_; have GE236 := n3_; clear n0_ n1_ n2_ n3_; clear hb hbox hg) | ((with_reducible refine gate_dst (N := 3) rfl ?_); refine box_event ?hg (N := 3) ?hd (cs := #[.int .i64 a1_0, .int .i64 a1_1, .slice A1_2 l1_2.length c1_2, .slice A1_3 l1_3.length c1_3, .int .i64 a1_4, .int .i64 a1_5, .slice A1_6 l1_6.length c1_6, .slice A1_7 l1_7.length c1_7, .int .i64 a1_8]) (t := 29) ?hr ?_; (case hd => rfl); (case hg => rfl); (case hr => first | (go_simp; done) | (go_simp; rfl)); intro gb237 hg w9 hbox hb; have n0_ := Aside0.mk (blk_below (g := gb236) (o := .cells #[.int .i64 a0_0, .int .i64 a0_1, .slice A0_2 l0_2.length c0_2, .slice A0_3 l0_3.length c0_3, .int .i64 a0_4, .int .i64 a0_5, .slice A0_6 l0_6.length c0_6, .slice A0_7 l0_7.length c0_7, .int .i64 a0_8] 29 (0, 0)) (by (with_reducible repeat (first | refine blk_drewN ?_ _ | refine blk_drew ?_ | refine blk_alloc ?_ _)); exact BK236.out) hb); have n1_ := Aside0.mk (below_step (by repeat (first | (with_reducible first | exact HB.out | apply below_alloc | apply pw_below_drewN | apply below_drew1 | refine below_set ?_ GE236.out) | exact HB.out)) hb); have n2_ := Aside0.mk (hbox); have n3_ := Aside0.mk ((by rw [hg]; exact (below_size (by repeat (first | (with_reducible first | exact HB.out | apply below_alloc | apply pw_below_drewN | apply below_drew1 | refine below_set ?_ GE236.out) | exact HB.out))) : w.heap.size ≤ gb237)); have n4_ := Aside0.mk ((by rw [hg]; exact (below_size (by repeat (first | (with_reducible first | exact HB.out | apply below_alloc | apply pw_below_drewN | apply below_drew1 | refine below_set ?_ GE236.out) | exact HB.out))) : w.heap.size ≤ gb237)); have n5_ := Aside0.mk ((by rw [hg]; exact Nat.ne_of_lt (blk_lt (g := gb236) (o := .cells #[.int .i64 a0_0, .int .i64 a0_1, .slice A0_2 l0_2.length c0_2, .slice A0_3 l0_3.length c0_3, .int .i64 a0_4, .int .i64 a0_5, .slice A0_6 l0_6.length c0_6, .slice A0_7 l0_7.length c0_7, .int .i64 a0_8] 29 (0, 0)) (by (with_reducible repeat (first | refine blk_drewN ?_ _ | refine blk_drew ?_ | refine blk_alloc ?_ _)); exact BK236.out)) : gb236 ≠ gb237)); have n6_ := Aside0.mk ((by rw [hg]; exact Nat.ne_of_gt (blk_lt (g := gb236) (o := .cells #[.int .i64 a0_0, .int .i64 a0_1, .slice A0_2 l0_2.length c0_2, .slice A0_3 l0_3.length c0_3, .int .i64 a0_4, .int .i64 a0_5, .slice A0_6 l0_6.length c0_6, .slice A0_7 l0_7.length c0_7, .int .i64 a0_8] 29 (0, 0)) (by (with_reducible repeat (first | refine blk_drewN ?_ _ | refine blk_drew ?_ | refine blk_alloc ?_ _)); exact BK236.out)) : gb237 ≠ gb236)); clear BK236; clear HB; have BK236 := n0_; have HB := n1_; have BK237 := n2_; have GW237 := n3_; have GE237 := n4_; have NB236_237 := n5_; have NB237_236 := n6_; clear n0_ n1_ n2_ n3_ n4_ n5_ n6_; clear hb hbox hg; have hnb10 := NB236_237.out; have hnc10 := NB237_236.out; have hcz11_0 : w9.cell? ⟨gb236, 0, none⟩ = some (.int .i64 a0_0) := (blk_cell BK236.out 0).trans rfl; have hcz11_1 : w9.cell? ⟨gb236, 1, none⟩ = some (.int .i64 a0_1) := (blk_cell BK236.out 1).trans rfl; have hcz11_2 : w9.cell? ⟨gb236, 2, none⟩ = some (.slice A0_2 l0_2.length c0_2) := (blk_cell BK236.out 2).trans rfl; have hcz11_3 : w9.cell? ⟨gb236, 3, none⟩ = some (.slice A0_3 l0_3.length c0_3) := (blk_cell BK236.out 3).trans rfl; have hcz11_4 : w9.cell? ⟨gb236, 4, none⟩ = some (.int .i64 a0_4) := (blk_cell BK236.out 4).trans rfl; have hcz11_5 : w9.cell? ⟨gb236, 5, none⟩ = some (.int .i64 a0_5) := (blk_cell BK236.out 5).trans rfl; have hcz11_6 : w9.cell? ⟨gb236, 6, none⟩ = some (.slice A0_6 l0_6.length c0_6) := (blk_cell BK236.out 6).trans rfl; have hcz11_7 : w9.cell? ⟨gb236, 7, none⟩ = some (.slice A0_7 l0_7.length c0_7) := (blk_cell BK236.out 7).trans rfl; have hcz11_8 : w9.cell? ⟨gb236, 8, none⟩ = some (.int .i64 a0_8) := (blk_cell BK236.out 8).trans rfl; have hfz11_0 := blk_frozen BK236.out 0; have hfz11_1 := blk_frozen BK236.out 1; have hfz11_2 := blk_frozen BK236.out 2; have hfz11_3 := blk_frozen BK236.out 3; have hfz11_4 := blk_frozen BK236.out 4; have hfz11_5 := blk_frozen BK236.out 5; have hfz11_6 := blk_frozen BK236.out 6; have hfz11_7 := blk_frozen BK236.out 7; have hfz11_8 := blk_frozen BK236.out 8; have hcz12_0 : w9.cell? ⟨gb237, 0, none⟩ = some (.int .i64 a1_0) := (blk_cell BK237.out 0).trans rfl; have hcz12_1 : w9.cell? ⟨gb237, 1, none⟩ = some (.int .i64 a1_1) := (blk_cell BK237.out 1).trans rfl; have hcz12_2 : w9.cell? ⟨gb237, 2, none⟩ = some (.slice A1_2 l1_2.length c1_2) := (blk_cell BK237.out 2).trans rfl; have hcz12_3 : w9.cell? ⟨gb237, 3, none⟩ = some (.slice A1_3 l1_3.length c1_3) := (blk_cell BK237.out 3).trans rfl; have hcz12_4 : w9.cell? ⟨gb237, 4, none⟩ = some (.int .i64 a1_4) := (blk_cell BK237.out 4).trans rfl; have hcz12_5 : w9.cell? ⟨gb237, 5, none⟩ = some (.int .i64 a1_5) := (blk_cell BK237.out 5).trans rfl; have hcz12_6 : w9.cell? ⟨gb237, 6, none⟩ = some (.slice A1_6 l1_6.length c1_6) := (blk_cell BK237.out 6).trans rfl; have hcz12_7 : w9.cell? ⟨gb237, 7, none⟩ = some (.slice A1_7 l1_7.length c1_7) := (blk_cell BK237.out 7).trans rfl; have hcz12_8 : w9.cell? ⟨gb237, 8, none⟩ = some (.int .i64 a1_8) := (blk_cell BK237.out 8).trans rfl; have hfz12_0 := blk_frozen BK237.out 0; have hfz12_1 := blk_frozen BK237.out 1; have hfz12_2 := blk_frozen BK237.out 2; have hfz12_3 := blk_frozen BK237.out 3; have hfz12_4 := blk_frozen BK237.out 4; have hfz12_5 := blk_frozen BK237.out 5; have hfz12_6 := blk_frozen BK237.out 6; have hfz12_7 := blk_frozen BK237.out 7; have hfz12_8 := blk_frozen BK237.out 8) | ((with_reducible refine gate_callee (f := 45) rfl ?_); refine goesL_ (some 9) rfl rfl Try.func45 (by kernel_rfl) rfl #[.agg #[.int .i64 a0_0, .int .i64 a0_1, .slice A0_2 l0_2.length c0_2, .slice A0_3 l0_3.length c0_3], .agg #[.int .i64 a1_0, .int .i64 a1_1, .slice A1_2 l1_2.length c1_2, .slice A1_3 l1_3.length c1_3]] rfl (by (try simp only [List.map_toArray, List.map_cons, List.map_nil]); first | done | rfl | (simp only [List.length_drop, List.length_take]; rfl)) ?_; (with_reducible refine (laws_eqCol.calls a0_0 a0_1 _ _ l0_2 _ _ l0_3 a1_0 a1_1 _ _ l1_2 _ _ l1_3 true _ ?side1 ?side2 ?side3 ?side4 ?side5 ?side6 ?side7 ?side8 A3.out).mono ?_); (case side1 => repeat (first | exact (Kd.C_below HR0_2.out HB.out) | (with_reducible refine Kd.C_alloc ?_ _) | (with_reducible refine Kd.C_drewN ?_ _) | (with_reducible refine Kd.C_drew ?_))); (case side2 => exact HC0_2.out); (case side3 => repeat (first | exact (Kd.C_below HR0_3.out HB.out) | (with_reducible refine Kd.C_alloc ?_ _) | (with_reducible refine Kd.C_drewN ?_ _) | (with_reducible refine Kd.C_drew ?_))); (case side4 => exact HC0_3.out); (case side5 => repeat (first | exact (Kd.C_below HR1_2.out HB.out) | (with_reducible refine Kd.C_alloc ?_ _) | (with_reducible refine Kd.C_drewN ?_ _) | (with_reducible refine Kd.C_drew ?_))); (case side6 => exact HC1_2.out); (case side7 => repeat (first | exact (Kd.C_below HR1_3.out HB.out) | (with_reducible refine Kd.C_alloc ?_ _) | (with_reducible refine Kd.C_drewN ?_ _) | (with_reducible refine Kd.C_drew ?_))); (case side8 => exact HC1_3.out); rintro e w13 ⟨rfl, hb⟩; refine ⟨_, rfl, ?_⟩; have n0_ := Aside0.mk (blk_below (g := gb236) (o := .cells #[.int .i64 a0_0, .int .i64 a0_1, .slice A0_2 l0_2.length c0_2, .slice A0_3 l0_3.length c0_3, .int .i64 a0_4, .int .i64 a0_5, .slice A0_6 l0_6.length c0_6, .slice A0_7 l0_7.length c0_7, .int .i64 a0_8] 29 (0, 0)) (by (with_reducible repeat (first | refine blk_drewN ?_ _ | refine blk_drew ?_ | refine blk_alloc ?_ _)); exact BK236.out) hb); have n1_ := Aside0.mk (blk_below (g := gb237) (o := .cells #[.int .i64 a1_0, .int .i64 a1_1, .slice A1_2 l1_2.length c1_2, .slice A1_3 l1_3.length c1_3, .int .i64 a1_4, .int .i64 a1_5, .slice A1_6 l1_6.length c1_6, .slice A1_7 l1_7.length c1_7, .int .i64 a1_8] 29 (0, 0)) (by (with_reducible repeat (first | refine blk_drewN ?_ _ | refine blk_drew ?_ | refine blk_alloc ?_ _)); exact BK237.out) hb); have n2_ := Aside0.mk (below_step (by repeat (first | (with_reducible first | exact HB.out | apply below_alloc | apply pw_below_drewN | apply below_drew1 | refine below_set ?_ GE236.out | refine below_set ?_ GE237.out) | exact HB.out)) hb); clear BK236; clear BK237; clear HB; have BK236 := n0_; have BK237 := n1_; have HB := n2_; clear n0_ n1_ n2_; (try clear hb); (try clear hb2); (try clear hk); (try clear hi); have hcz14_0 : w13.cell? ⟨gb236, 0, none⟩ = some (.int .i64 a0_0) := (blk_cell BK236.out 0).trans rfl; have hcz14_1 : w13.cell? ⟨gb236, 1, none⟩ = some (.int .i64 a0_1) := (blk_cell BK236.out 1).trans rfl; have hcz14_2 : w13.cell? ⟨gb236, 2, none⟩ = some (.slice A0_2 l0_2.length c0_2) := (blk_cell BK236.out 2).trans rfl; have hcz14_3 : w13.cell? ⟨gb236, 3, none⟩ = some (.slice A0_3 l0_3.length c0_3) := (blk_cell BK236.out 3).trans rfl; have hcz14_4 : w13.cell? ⟨gb236, 4, none⟩ = some (.int .i64 a0_4) := (blk_cell BK236.out 4).trans rfl; have hcz14_5 : w13.cell? ⟨gb236, 5, none⟩ = some (.int .i64 a0_5) := (blk_cell BK236.out 5).trans rfl; have hcz14_6 : w13.cell? ⟨gb236, 6, none⟩ = some (.slice A0_6 l0_6.length c0_6) := (blk_cell BK236.out 6).trans rfl; have hcz14_7 : w13.cell? ⟨gb236, 7, none⟩ = some (.slice A0_7 l0_7.length c0_7) := (blk_cell BK236.out 7).trans rfl; have hcz14_8 : w13.cell? ⟨gb236, 8, none⟩ = some (.int .i64 a0_8) := (blk_cell BK236.out 8).trans rfl; have hfz14_0 := blk_frozen BK236.out 0; have hfz14_1 := blk_frozen BK236.out 1; have hfz14_2 := blk_frozen BK236.out 2; have hfz14_3 := blk_frozen BK236.out 3; have hfz14_4 := blk_frozen BK236.out 4; have hfz14_5 := blk_frozen BK236.out 5; have hfz14_6 := blk_frozen BK236.out 6; have hfz14_7 := blk_frozen BK236.out 7; have hfz14_8 := blk_frozen BK236.out 8; have hcz15_0 : w13.cell? ⟨gb237, 0, none⟩ = some (.int .i64 a1_0) := (blk_cell BK237.out 0).trans rfl; have hcz15_1 : w13.cell? ⟨gb237, 1, none⟩ = some (.int .i64 a1_1) := (blk_cell BK237.out 1).trans rfl; have hcz15_2 : w13.cell? ⟨gb237, 2, none⟩ = some (.slice A1_2 l1_2.length c1_2) := (blk_cell BK237.out 2).trans rfl; have hcz15_3 : w13.cell? ⟨gb237, 3, none⟩ = some (.slice A1_3 l1_3.length c1_3) := (blk_cell BK237.out 3).trans rfl; have hcz15_4 : w13.cell? ⟨gb237, 4, none⟩ = some (.int .i64 a1_4) := (blk_cell BK237.out 4).trans rfl; have hcz15_5 : w13.cell? ⟨gb237, 5, none⟩ = some (.int .i64 a1_5) := (blk_cell BK237.out 5).trans rfl; have hcz15_6 : w13.cell? ⟨gb237, 6, none⟩ = some (.slice A1_6 l1_6.length c1_6) := (blk_cell BK237.out 6).trans rfl; have hcz15_7 : w13.cell? ⟨gb237, 7, none⟩ = some (.slice A1_7 l1_7.length c1_7) := (blk_cell BK237.out 7).trans rfl; have hcz15_8 : w13.cell? ⟨gb237, 8, none⟩ = some (.int .i64 a1_8) := (blk_cell BK237.out 8).trans rfl; have hfz15_0 := blk_frozen BK237.out 0; have hfz15_1 := blk_frozen BK237.out 1; have hfz15_2 := blk_frozen BK237.out 2; have hfz15_3 := blk_frozen BK237.out 3; have hfz15_4 := blk_frozen BK237.out 4; have hfz15_5 := blk_frozen BK237.out 5; have hfz15_6 := blk_frozen BK237.out 6; have hfz15_7 := blk_frozen BK237.out 7; have hfz15_8 := blk_frozen BK237.out 8) | ((with_reducible refine gate_callee (f := 45) rfl ?_); refine goesL_ (some 15) rfl rfl Try.func45 (by kernel_rfl) rfl #[.agg #[.int .i64 a0_4, .int .i64 a0_5, .slice A0_6 l0_6.length c0_6, .slice A0_7 l0_7.length c0_7], .agg #[.int .i64 a1_4, .int .i64 a1_5, .slice A1_6 l1_6.length c1_6, .slice A1_7 l1_7.length c1_7]] rfl (by (try simp only [List.map_toArray, List.map_cons, List.map_nil]); first | done | rfl | (simp only [List.length_drop, List.length_take]; rfl)) ?_; (with_reducible refine (laws_eqCol.calls a0_4 a0_5 _ _ l0_6 _ _ l0_7 a1_4 a1_5 _ _ l1_6 _ _ l1_7 true _ ?side1 ?side2 ?side3 ?side4 ?side5 ?side6 ?side7 ?side8 A5.out).mono ?_); (case side1 => repeat (first | exact (Kd.C_below HR0_6.out HB.out) | (with_reducible refine Kd.C_alloc ?_ _) | (with_reducible refine Kd.C_drewN ?_ _) | (with_reducible refine Kd.C_drew ?_))); (case side2 => exact HC0_6.out); (case side3 => repeat (first | exact (Kd.C_below HR0_7.out HB.out) | (with_reducible refine Kd.C_alloc ?_ _) | (with_reducible refine Kd.C_drewN ?_ _) | (with_reducible refine Kd.C_drew ?_))); (case side4 => exact HC0_7.out); (case side5 => repeat (first | exact (Kd.C_below HR1_6.out HB.out) | (with_reducible refine Kd.C_alloc ?_ _) | (with_reducible refine Kd.C_drewN ?_ _) | (with_reducible refine Kd.C_drew ?_))); (case side6 => exact HC1_6.out); (case side7 => repeat (first | exact (Kd.C_below HR1_7.out HB.out) | (with_reducible refine Kd.C_alloc ?_ _) | (with_reducible refine Kd.C_drewN ?_ _) | (with_reducible refine Kd.C_drew ?_))); (case side8 => exact HC1_7.out); rintro e w16 ⟨rfl, hb⟩; refine ⟨_, rfl, ?_⟩; have n0_ := Aside0.mk (blk_below (g := gb236) (o := .cells #[.int .i64 a0_0, .int .i64 a0_1, .slice A0_2 l0_2.length c0_2, .slice A0_3 l0_3.length c0_3, .int .i64 a0_4, .int .i64 a0_5, .slice A0_6 l0_6.length c0_6, .slice A0_7 l0_7.length c0_7, .int .i64 a0_8] 29 (0, 0)) (by (with_reducible repeat (first | refine blk_drewN ?_ _ | refine blk_drew ?_ | refine blk_alloc ?_ _)); exact BK236.out) hb); have n1_ := Aside0.mk (blk_below (g := gb237) (o := .cells #[.int .i64 a1_0, .int .i64 a1_1, .slice A1_2 l1_2.length c1_2, .slice A1_3 l1_3.length c1_3, .int .i64 a1_4, .int .i64 a1_5, .slice A1_6 l1_6.length c1_6, .slice A1_7 l1_7.length c1_7, .int .i64 a1_8] 29 (0, 0)) (by (with_reducible repeat (first | refine blk_drewN ?_ _ | refine blk_drew ?_ | refine blk_alloc ?_ _)); exact BK237.out) hb); have n2_ := Aside0.mk (below_step (by repeat (first | (with_reducible first | exact HB.out | apply below_alloc | apply pw_below_drewN | apply below_drew1 | refine below_set ?_ GE236.out | refine below_set ?_ GE237.out) | exact HB.out)) hb); clear BK236; clear BK237; clear HB; have BK236 := n0_; have BK237 := n1_; have HB := n2_; clear n0_ n1_ n2_; (try clear hb); (try clear hb2); (try clear hk); (try clear hi); have hcz17_0 : w16.cell? ⟨gb236, 0, none⟩ = some (.int .i64 a0_0) := (blk_cell BK236.out 0).trans rfl; have hcz17_1 : w16.cell? ⟨gb236, 1, none⟩ = some (.int .i64 a0_1) := (blk_cell BK236.out 1).trans rfl; have hcz17_2 : w16.cell? ⟨gb236, 2, none⟩ = some (.slice A0_2 l0_2.length c0_2) := (blk_cell BK236.out 2).trans rfl; have hcz17_3 : w16.cell? ⟨gb236, 3, none⟩ = some (.slice A0_3 l0_3.length c0_3) := (blk_cell BK236.out 3).trans rfl; have hcz17_4 : w16.cell? ⟨gb236, 4, none⟩ = some (.int .i64 a0_4) := (blk_cell BK236.out 4).trans rfl; have hcz17_5 : w16.cell? ⟨gb236, 5, none⟩ = some (.int .i64 a0_5) := (blk_cell BK236.out 5).trans rfl; have hcz17_6 : w16.cell? ⟨gb236, 6, none⟩ = some (.slice A0_6 l0_6.length c0_6) := (blk_cell BK236.out 6).trans rfl; have hcz17_7 : w16.cell? ⟨gb236, 7, none⟩ = some (.slice A0_7 l0_7.length c0_7) := (blk_cell BK236.out 7).trans rfl; have hcz17_8 : w16.cell? ⟨gb236, 8, none⟩ = some (.int .i64 a0_8) := (blk_cell BK236.out 8).trans rfl; have hfz17_0 := blk_frozen BK236.out 0; have hfz17_1 := blk_frozen BK236.out 1; have hfz17_2 := blk_frozen BK236.out 2; have hfz17_3 := blk_frozen BK236.out 3; have hfz17_4 := blk_frozen BK236.out 4; have hfz17_5 := blk_frozen BK236.out 5; have hfz17_6 := blk_frozen BK236.out 6; have hfz17_7 := blk_frozen BK236.out 7; have hfz17_8 := blk_frozen BK236.out 8; have hcz18_0 : w16.cell? ⟨gb237, 0, none⟩ = some (.int .i64 a1_0) := (blk_cell BK237.out 0).trans rfl; have hcz18_1 : w16.cell? ⟨gb237, 1, none⟩ = some (.int .i64 a1_1) := (blk_cell BK237.out 1).trans rfl; have hcz18_2 : w16.cell? ⟨gb237, 2, none⟩ = some (.slice A1_2 l1_2.length c1_2) := (blk_cell BK237.out 2).trans rfl; have hcz18_3 : w16.cell? ⟨gb237, 3, none⟩ = some (.slice A1_3 l1_3.length c1_3) := (blk_cell BK237.out 3).trans rfl; have hcz18_4 : w16.cell? ⟨gb237, 4, none⟩ = some (.int .i64 a1_4) := (blk_cell BK237.out 4).trans rfl; have hcz18_5 : w16.cell? ⟨gb237, 5, none⟩ = some (.int .i64 a1_5) := (blk_cell BK237.out 5).trans rfl; have hcz18_6 : w16.cell? ⟨gb237, 6, none⟩ = some (.slice A1_6 l1_6.length c1_6) := (blk_cell BK237.out 6).trans rfl; have hcz18_7 : w16.cell? ⟨gb237, 7, none⟩ = some (.slice A1_7 l1_7.length c1_7) := (blk_cell BK237.out 7).trans rfl; have hcz18_8 : w16.cell? ⟨gb237, 8, none⟩ = some (.int .i64 a1_8) := (blk_cell BK237.out 8).trans rfl; have hfz18_0 := blk_frozen BK237.out 0; have hfz18_1 := blk_frozen BK237.out 1; have hfz18_2 := blk_frozen BK237.out 2; have hfz18_3 := blk_frozen BK237.out 3; have hfz18_4 := blk_frozen BK237.out 4; have hfz18_5 := blk_frozen BK237.out 5; have hfz18_6 := blk_frozen BK237.out 6; have hfz18_7 := blk_frozen BK237.out 7; have hfz18_8 := blk_frozen BK237.out 8))
        go_ret
        exact ⟨by first | rfl | (simp [errW_none, errW_some] <;> rfl) | (simp [*, errW_none, errW_some] <;> rfl), by repeat (first | (with_reducible first | exact HB.out | apply below_alloc | apply pw_below_drewN | apply below_drew1 | refine below_set ?_ GE236.out | refine below_set ?_ GE237.out) | exact HB.out)⟩
      · rw [if_neg c7] at H
        exact absurd H (by simp)
    · replace c6 := Bool.eq_false_iff.mpr c6
      subst c6
      have H1 : (none) = some r := by rw [if_neg (show ¬ (false = true) by decide)] at H; exact H
      clear H
      have H := H1
      clear H1
      exact absurd H (by simp)
  · replace c4 := Bool.eq_false_iff.mpr c4
    subst c4
    have H1 : (none) = some r := by rw [if_neg (show ¬ (false = true) by decide)] at H; exact H
    clear H
    have H := H1
    clear H1
    exact absurd H (by simp)
end Go.Proofs.Ytnffoddeppimkaa.P
namespace Go.Proofs.Ytnffoddeppimkaa.P
open Go.RowKit Go.Proofs.YtnffoddeppimkaaW.PrintWords Go.Proofs.YtnffoddeppimkaaW.PrintLast Go.Proofs.YtnffoddeppimkaaW.PrintMore
attribute [local go_sem] max2_int min2_int max_two min_two max_three min_three max_four min_four
set_option linter.unusedVariables false
set_option linter.unusedSimpArgs false
def laws_eqFrac.f (a0_0 : Int) (a0_1 : Int) (a1_0 : Int) (a1_1 : Int) : Option (Bool) := if a0_0 = a1_0 then (if a0_1 = a1_1 then (some true) else (none)) else (none)
set_option maxHeartbeats 8000000 in
set_option maxRecDepth 100000 in
theorem laws_eqFrac.calls (a0_0 : Int) (a0_1 : Int) (a1_0 : Int) (a1_1 : Int) (r : Bool) (w : World) (h : laws_eqFrac.f a0_0 a0_1 a1_0 a1_1 = some r) :
    Calls Try.prog 46 #[.agg #[.int .i64 a0_0, .int .i64 a0_1], .agg #[.int .i64 a1_0, .int .i64 a1_1]] w fun e w' => e = .returned (.bool r) ∧ Below w.heap.size w w' := by
  have hu30 := Try.underlying30
  have HB := Aside0.mk (Below.refl w.heap.size w)
  have H : (if a0_0 = a1_0 then (if a0_1 = a1_1 then (some true) else (none)) else (none)) = some r := h
  clear h
  by_cases c3 : a0_0 = a1_0
  · rw [if_pos c3] at H
    have c3b0 : (a0_0 == a1_0) = true := beq_iff_eq.mpr c3
    have c3b1 : (a0_0 != a1_0) = false := bne_eq_false_iff_eq.mpr c3
    clear c3
    by_cases c4 : a0_1 = a1_1
    · rw [if_pos c4] at H
      have c4b0 : (a0_1 == a1_1) = true := beq_iff_eq.mpr c4
      have c4b1 : (a0_1 != a1_1) = false := bne_eq_false_iff_eq.mpr c4
      clear c4
      obtain rfl := Option.some.inj H
      go_enter Try.func46, Try.ntmps46
      go_wp2_with (first | ((with_reducible refine gate_dst (N := 2) rfl ?_); refine box_event ?hg (N := 2) ?hd (cs := #[.int .i64 a0_0, .int .i64 a0_1]) (t := 30) ?hr ?_; (case hd => rfl); (case hg => rfl); (case hr => first | (go_simp; done) | (go_simp; rfl)); intro gb240 hg w5 hbox hb; have n0_ := Aside0.mk (below_step (by repeat (first | (with_reducible first | exact HB.out | apply below_alloc | apply pw_below_drewN | apply below_drew1) | exact HB.out)) hb); have n1_ := Aside0.mk (hbox); have n2_ := Aside0.mk ((by rw [hg]; exact (below_size (by repeat (first | (with_reducible first | exact HB.out | apply below_alloc | apply pw_below_drewN | apply below_drew1) | exact HB.out))) : w.heap.size ≤ gb240)); have n3_ := Aside0.mk ((by rw [hg]; exact (below_size (by repeat (first | (with_reducible first | exact HB.out | apply below_alloc | apply pw_below_drewN | apply below_drew1) | exact HB.out))) : w.heap.size ≤ gb240)); clear HB; have HB := n0_; have BK240 := n1_; have GW240 := n2_; have GE240 := n3_; clear n0_ n1_ n2_ n3_; clear hb hbox hg) | ((with_reducible refine gate_dst (N := 3) rfl ?_); refine box_event ?hg (N := 3) ?hd (cs := #[.int .i64 a1_0, .int .i64 a1_1]) (t := 30) ?hr ?_; (case hd => rfl); (case hg => rfl); (case hr => first | (go_simp; done) | (go_simp; rfl)); intro gb241 hg w6 hbox hb; have n0_ := Aside0.mk (blk_below (g := gb240) (o := .cells #[.int .i64 a0_0, .int .i64 a0_1] 30 (0, 0)) (by (with_reducible repeat (first | refine blk_drewN ?_ _ | refine blk_drew ?_ | refine blk_alloc ?_ _)); exact BK240.out) hb); have n1_ := Aside0.mk (below_step (by repeat (first | (with_reducible first | exact HB.out | apply below_alloc | apply pw_below_drewN | apply below_drew1 | refine below_set ?_ GE240.out) | exact HB.out)) hb); have n2_ := Aside0.mk (hbox); have n3_ := Aside0.mk ((by rw [hg]; exact (below_size (by repeat (first | (with_reducible first | exact HB.out | apply below_alloc | apply pw_below_drewN | apply below_drew1 | refine below_set ?_ GE240.out) | exact HB.out))) : w.heap.size ≤ gb241)); have n4_ := Aside0.mk ((by rw [hg]; exact (below_size (by repeat (first | (with_reducible first | exact HB.out | apply below_alloc | apply pw_below_drewN | apply below_drew1 | refine below_set ?_ GE240.out) | exact HB.out))) : w.heap.size ≤ gb241)); have n5_ := Aside0.mk ((by rw [hg]; exact Nat.ne_of_lt (blk_lt (g := gb240) (o := .cells #[.int .i64 a0_0, .int .i64 a0_1] 30 (0, 0)) (by (with_reducible repeat (first | refine blk_drewN ?_ _ | refine blk_drew ?_ | refine blk_alloc ?_ _)); exact BK240.out)) : gb240 ≠ gb241)); have n6_ := Aside0.mk ((by rw [hg]; exact Nat.ne_of_gt (blk_lt (g := gb240) (o := .cells #[.int .i64 a0_0, .int .i64 a0_1] 30 (0, 0)) (by (with_reducible repeat (first | refine blk_drewN ?_ _ | refine blk_drew ?_ | refine blk_alloc ?_ _)); exact BK240.out)) : gb241 ≠ gb240)); clear BK240; clear HB; have BK240 := n0_; have HB := n1_; have BK241 := n2_; have GW241 := n3_; have GE241 := n4_; have NB240_241 := n5_; have NB241_240 := n6_; clear n0_ n1_ n2_ n3_ n4_ n5_ n6_; clear hb hbox hg; have hnb7 := NB240_241.out; have hnc7 := NB241_240.out; have hcz8_0 : w6.cell? ⟨gb240, 0, none⟩ = some (.int .i64 a0_0) := (blk_cell BK240.out 0).trans rfl; have hcz8_1 : w6.cell? ⟨gb240, 1, none⟩ = some (.int .i64 a0_1) := (blk_cell BK240.out 1).trans rfl; have hfz8_0 := blk_frozen BK240.out 0; have hfz8_1 := blk_frozen BK240.out 1; have hcz9_0 : w6.cell? ⟨gb241, 0, none⟩ = some (.int .i64 a1_0) := (blk_cell BK241.out 0).trans rfl; have hcz9_1 : w6.cell? ⟨gb241, 1, none⟩ = some (.int .i64 a1_1) := (blk_cell BK241.out 1).trans rfl; have hfz9_0 := blk_frozen BK241.out 0; have hfz9_1 := blk_frozen BK241.out 1))
      go_ret
      exact ⟨by first | rfl | (simp [errW_none, errW_some] <;> rfl) | (simp [*, errW_none, errW_some] <;> rfl), by repeat (first | (with_reducible first | exact HB.out | apply below_alloc | apply pw_below_drewN | apply below_drew1 | refine below_set ?_ GE240.out | refine below_set ?_ GE241.out) | exact HB.out)⟩
    · rw [if_neg c4] at H
      exact absurd H (by simp)
  · rw [if_neg c3] at H
    exact absurd H (by simp)
end Go.Proofs.Ytnffoddeppimkaa.P
namespace Go.Proofs.Ytnffoddeppimkaa.P
open Go.RowKit Go.Proofs.YtnffoddeppimkaaW.PrintWords Go.Proofs.YtnffoddeppimkaaW.PrintLast Go.Proofs.YtnffoddeppimkaaW.PrintMore
attribute [local go_sem] max2_int min2_int max_two min_two max_three min_three max_four min_four
set_option linter.unusedVariables false
set_option linter.unusedSimpArgs false
def laws_eqFracS.l0 : Nat → List (S30) → List (S30) → Int → Option (Bool)
  | 0, _, _, _ => none
  | k + 1, x0, x1, x5 => if x5 < (x0.length : Int) then (if 0 ≤ x5 then (if x5 < (x1.length : Int) then ((laws_eqFrac.f ((rd_T30 x0 x5).f0) ((rd_T30 x0 x5).f1) ((rd_T30 x1 x5).f0) ((rd_T30 x1 x5).f1)).bind fun t244 => (if t244 = true then (laws_eqFracS.l0 k x0 x1 (wrap64 (x5 + 1))) else (some false))) else (none)) else (none)) else (some true)
def laws_eqFracS.f (k : Nat) (l0 : List (S30)) (l1 : List (S30)) : Option (Bool) := if (l0.length : Int) = (l1.length : Int) then (laws_eqFracS.l0 k l0 l1 0) else (none)
theorem laws_eqFracS.mono_l : ∀ k, (∀ y0 y1 y2, LeO (laws_eqFracS.l0 k y0 y1 y2) (laws_eqFracS.l0 (k + 1) y0 y1 y2))
  | 0 => fun _ _ _ r h => by simp [laws_eqFracS.l0] at h
  | k + 1 => by
    have ih0 := laws_eqFracS.mono_l k
    · intro y0 y1 y2
      unfold laws_eqFracS.l0
      repeat' first
      | (with_reducible exact ih0 _ _ _)
      | (with_reducible exact LeO.refl _)
      | (with_reducible exact LeO.none _)
      | (with_reducible refine LeO.ite ?_ ?_)
      | (with_reducible refine LeO.bind ?_ (fun _ => ?_))
      | exact ih0 _ _ _
      | exact LeO.none _
      | refine LeO.ite ?_ ?_
      | refine LeO.bind ?_ (fun _ => ?_)
theorem laws_eqFracS.mono : ∀ a0 a1 k, LeO (laws_eqFracS.f k a0 a1) (laws_eqFracS.f (k + 1) a0 a1) := by
  intro a0 a1 k
  have ih0 := laws_eqFracS.mono_l k
  unfold laws_eqFracS.f
  repeat' first
      | (with_reducible exact ih0 _ _ _)
      | (with_reducible exact LeO.refl _)
      | (with_reducible exact LeO.none _)
      | (with_reducible refine LeO.ite ?_ ?_)
      | (with_reducible refine LeO.bind ?_ (fun _ => ?_))
      | exact ih0 _ _ _
      | exact LeO.none _
      | refine LeO.ite ?_ ?_
      | refine LeO.bind ?_ (fun _ => ?_)
def laws_eqFracS.T6 : Bool × List (List Nat × List Nat) := (true, [([], []), ([], []), ([0, 1], [0, 1]), ([2], [2]), ([], []), ([], []), ([4, 5], [4, 5]), ([6], [6]), ([3, 7], [3, 7]), ([8], [8])])
def laws_eqFracS.B6 : List Nat := [0, 0, 3, 7, 0, 0, 48, 112, 255, 511]
theorem laws_eqFracS.tab6 : rtab .any (opsOf Try.f47 6) = laws_eqFracS.T6 := by kernel_rfl
theorem laws_eqFracS.bits6 : waitsOk laws_eqFracS.T6.2 laws_eqFracS.B6 = true := by kernel_rfl
set_option maxHeartbeats 8000000 in
set_option maxRecDepth 100000 in
theorem laws_eqFracS.calls (k : Nat) (A0 : Option Addr) (c0 : Nat) (l0 : List (S30)) (A1 : Option Addr) (c1 : Nat) (l1 : List (S30)) (r : Bool) (w : World) (hr0 : Kd.C k30 w A0 l0.length l0) (hc0 : l0.length ≤ c0) (hr1 : Kd.C k30 w A1 l1.length l1) (hc1 : l1.length ≤ c1) (h : laws_eqFracS.f k l0 l1 = some r) :
    Calls Try.prog 47 #[.slice A0 l0.length c0, .slice A1 l1.length c1] w fun e w' => e = .returned (.bool r) ∧ Below w.heap.size w w' := by
  have hu30 := Try.underlying30
  have HR0 := Aside0.mk hr0
  have HC0 := Aside0.mk hc0
  clear hr0 hc0
  have HR1 := Aside0.mk hr1
  have HC1 := Aside0.mk hc1
  clear hr1 hc1
  have HB := Aside0.mk (Below.refl w.heap.size w)
  have H : (if (l0.length : Int) = (l1.length : Int) then (laws_eqFracS.l0 k l0 l1 0) else (none)) = some r := h
  clear h
  by_cases c3 : (l0.length : Int) = (l1.length : Int)
  · rw [if_pos c3] at H
    have c3b0 : ((l0.length : Int) == (l1.length : Int)) = true := beq_iff_eq.mpr c3
    have c3b1 : ((l0.length : Int) != (l1.length : Int)) = false := bne_eq_false_iff_eq.mpr c3
    have c3b2 : (l0.length == l1.length) = true := by first | simpa using c3 | (simp at c3 ⊢; omega)
    clear c3
    have H' := Aside0.mk H
    clear H
    go_enter Try.func47, Try.ntmps47
    go_wp2
    go_loopg [5] k (fun kq v5 w' => ∃ (x5_1 : Int), v5 = .int .i64 x5_1 ∧ Aside0 (laws_eqFracS.l0 kq l0 l1 x5_1 = some r) ∧ Aside0 (kq ≤ k) ∧ Aside0 (Below w.heap.size w w'))
    case atStart => exact ⟨(0), (by first | rfl | (simp; done) | (simp [*]; done)), H', ⟨Nat.le_refl _⟩, ⟨by repeat (first | (with_reducible first | exact HB.out | apply below_alloc | apply pw_below_drewN | apply below_drew1) | exact HB.out)⟩⟩
    case round =>
      clear H'
      try clear c1
      try clear p2
      try clear c3
      try clear c3b0
      try clear c3b1
      try clear c3b2
      obtain ⟨x5_1, rfl, HA, HK1, HB⟩ := hrel
      cases gk with
      | zero => exact absurd HA.out (by simp [laws_eqFracS.l0])
      | succ k1 =>
        have H := HA.out
        clear HA
        simp only [laws_eqFracS.l0] at H
        by_cases c4 : x5_1 < (l0.length : Int)
        · rw [if_pos c4] at H
          have c4b0 : decide (x5_1 < (l0.length : Int)) = true := decide_eq_true c4
          clear c4
          by_cases c5 : 0 ≤ x5_1
          · rw [if_pos c5] at H
            have c5b0 : decide (0 ≤ x5_1) = true := decide_eq_true c5
            clear c5
            by_cases c6 : x5_1 < (l1.length : Int)
            · rw [if_pos c6] at H
              have c6b0 : decide (x5_1 < (l1.length : Int)) = true := decide_eq_true c6
              clear c6
              replace H := Option.bind_eq_some_iff.mp H
              obtain ⟨t244, A70, H⟩ := H
              replace H : (if t244 = true then (laws_eqFracS.l0 k1 l0 l1 (wrap64 (x5_1 + 1))) else (some false)) = some r := H
              have A7 := Aside0.mk A70
              clear A70
              by_cases c8 : t244 = true
              · subst c8
                have H1 : (laws_eqFracS.l0 k1 l0 l1 (wrap64 (x5_1 + 1))) = some r := by rw [if_pos rfl] at H; exact H
                clear H
                have H := H1
                clear H1
                have H' := Aside0.mk H
                clear H
                try go_wp2
                have n0_ := Aside0.mk (below_drew1 HB.out)
                clear HB
                have HB := n0_
                clear n0_
                have p242 : 0 ≤ (x5_1 : Int) := of_decide_eq_true (by first | (with_reducible assumption) | assumption)
                have q242 : x5_1 < (l0.length : Int) := of_decide_eq_true (by first | (with_reducible assumption) | assumption)
                obtain ⟨ad242, e242, hx242_0, hx242_1⟩ := at_T30 HR0.out x5_1 p242 q242
                have hw242_1 := hx242_1
                have hw242_0 := hx242_0
                cases e242
                replace hx242_0 := (HB.out.cell (World.block_lt_of_cell? w _ hx242_0)).trans hx242_0
                replace hx242_1 := (HB.out.cell (World.block_lt_of_cell? w _ hx242_1)).trans hx242_1
                replace p242 := eq_true p242
                replace q242 := eq_true q242
                have p243 : 0 ≤ (x5_1 : Int) := of_decide_eq_true (by first | (with_reducible assumption) | assumption)
                have q243 : x5_1 < (l1.length : Int) := of_decide_eq_true (by first | (with_reducible assumption) | assumption)
                obtain ⟨ad243, e243, hx243_0, hx243_1⟩ := at_T30 HR1.out x5_1 p243 q243
                have hw243_1 := hx243_1
                have hw243_0 := hx243_0
                cases e243
                replace hx243_0 := (HB.out.cell (World.block_lt_of_cell? w _ hx243_0)).trans hx243_0
                replace hx243_1 := (HB.out.cell (World.block_lt_of_cell? w _ hx243_1)).trans hx243_1
                replace p243 := eq_true p243
                replace q243 := eq_true q243
                refine start_ (n := 10) (S := fun w' => w'.cell? (ad242.add ((x5_1).toNat * 2)) = some (.int .i64 ((rd_T30 l0 x5_1).f0)) ∧ w'.cell? ⟨(ad242.add ((x5_1).toNat * 2)).block, (ad242.add ((x5_1).toNat * 2)).off + 1, none⟩ = some (.int .i64 ((rd_T30 l0 x5_1).f1)) ∧ w'.cell? (ad243.add ((x5_1).toNat * 2)) = some (.int .i64 ((rd_T30 l1 x5_1).f0)) ∧ w'.cell? ⟨(ad243.add ((x5_1).toNat * 2)).block, (ad243.add ((x5_1).toNat * 2)).off + 1, none⟩ = some (.int .i64 ((rd_T30 l1 x5_1).f1))) (ds := []) #[false, false, false, false, false, false, false, false, false, false] (by kernel_rfl) rfl rfl ⟨((HB.out.cell (World.block_lt_of_cell? w _ hw242_0)).trans hw242_0), ((HB.out.cell (World.block_lt_of_cell? w _ hw242_1)).trans hw242_1), ((HB.out.cell (World.block_lt_of_cell? w _ hw243_0)).trans hw243_0), ((HB.out.cell (World.block_lt_of_cell? w _ hw243_1)).trans hw243_1)⟩ (fun hHeld => ?_); refine with_tabW laws_eqFracS.tab6 laws_eqFracS.bits6 (fun HT_ HW_ => ?_)
                generalize wr.drew = w9 at HB hx242_0 hx242_1 hx243_0 hx243_1 hHeld ⊢
                refine pure_ (i := 0) (N := some 17) (v := ?_) (a' := ?_) #[true, false, false, false, false, false, false, false, false, false] rfl rfl (any_of HT_.out (by kernel_rfl)) (fun _ _ _ h => h) (Or.inl ⟨by rfl, ?_⟩) ?_ ?_
                rotate_left
                · intro w'
                  go_simp
                  with_reducible rfl
                rotate_left
                · simp only [Act.put, List.setIfInBounds_toArray, List.set_cons_zero, List.set_cons_succ, i64_w, i32_w]
                  rfl
                refine pure_ (i := 1) (N := some 18) (v := ?_) (a' := ?_) #[true, true, false, false, false, false, false, false, false, false] rfl rfl (any_of HT_.out (by kernel_rfl)) (fun _ _ _ h => h) (Or.inl ⟨by rfl, ?_⟩) ?_ ?_
                rotate_left
                · intro w'
                  go_simp
                  with_reducible rfl
                rotate_left
                · simp only [Act.put, List.setIfInBounds_toArray, List.set_cons_zero, List.set_cons_succ, i64_w, i32_w]
                  rfl
                refine pure_ (i := 2) (N := some 19) (v := ?_) (a' := ?_) #[true, true, true, false, false, false, false, false, false, false] rfl rfl (any_of HT_.out (by kernel_rfl)) (fun _ _ _ h => h) (Or.inl ⟨by rfl, ?_⟩) ?_ ?_
                rotate_left
                · intro w'
                  go_simp
                  with_reducible rfl
                rotate_left
                · simp only [Act.put, List.setIfInBounds_toArray, List.set_cons_zero, List.set_cons_succ, i64_w, i32_w]
                  rfl
                refine pure_ (i := 4) (N := some 21) (v := ?_) (a' := ?_) #[true, true, true, false, true, false, false, false, false, false] rfl rfl (any_of HT_.out (by kernel_rfl)) (fun _ _ _ h => h) (Or.inl ⟨by rfl, ?_⟩) ?_ ?_
                rotate_left
                · intro w'
                  go_simp
                  with_reducible rfl
                rotate_left
                · simp only [Act.put, List.setIfInBounds_toArray, List.set_cons_zero, List.set_cons_succ, i64_w, i32_w]
                  rfl
                refine pure_ (i := 5) (N := some 22) (v := ?_) (a' := ?_) #[true, true, true, false, true, true, false, false, false, false] rfl rfl (any_of HT_.out (by kernel_rfl)) (fun _ _ _ h => h) (Or.inl ⟨by rfl, ?_⟩) ?_ ?_
                rotate_left
                · intro w'
                  go_simp
                  with_reducible rfl
                rotate_left
                · simp only [Act.put, List.setIfInBounds_toArray, List.set_cons_zero, List.set_cons_succ, i64_w, i32_w]
                  rfl
                refine pure_ (i := 6) (N := some 23) (v := ?_) (a' := ?_) #[true, true, true, false, true, true, true, false, false, false] rfl rfl (any_of HT_.out (by kernel_rfl)) (fun _ _ _ h => h) (Or.inl ⟨by rfl, ?_⟩) ?_ ?_
                rotate_left
                · intro w'
                  go_simp
                  with_reducible rfl
                rotate_left
                · simp only [Act.put, List.setIfInBounds_toArray, List.set_cons_zero, List.set_cons_succ, i64_w, i32_w]
                  rfl
                refine take_ (i := 3) (N := some 20) (v := ?_) (a' := ?_) #[true, true, true, true, true, true, true, false, false, false] rfl rfl (take_ofW HT_.out HW_.out (by kernel_rfl)) (fun _ _ _ h => h) (Or.inl ⟨by rfl, ?_⟩) hHeld ?_ ?_
                rotate_left
                · rintro w' ⟨s0, s1, s2, s3⟩
                  go_simp
                  with_reducible rfl
                rotate_left
                · simp only [Act.put, List.setIfInBounds_toArray, List.set_cons_zero, List.set_cons_succ, i64_w, i32_w]
                  rfl
                refine take_ (i := 7) (N := some 24) (v := ?_) (a' := ?_) #[true, true, true, true, true, true, true, true, false, false] rfl rfl (take_ofW HT_.out HW_.out (by kernel_rfl)) (fun _ _ _ h => h) (Or.inl ⟨by rfl, ?_⟩) hHeld ?_ ?_
                rotate_left
                · rintro w' ⟨s0, s1, s2, s3⟩
                  go_simp
                  with_reducible rfl
                rotate_left
                · simp only [Act.put, List.setIfInBounds_toArray, List.set_cons_zero, List.set_cons_succ, i64_w, i32_w]
                  rfl
                refine one_ (i := 8) (N := some 25) #[true, true, true, true, true, true, true, true, true, false] rfl rfl (one_of HT_.out (by kernel_rfl)) (by decide) (fun K hK => ?_)
                refine goes_ Try.func46 (by kernel_rfl) rfl #[.agg #[.int .i64 ((rd_T30 l0 x5_1).f0), .int .i64 ((rd_T30 l0 x5_1).f1)], .agg #[.int .i64 ((rd_T30 l1 x5_1).f0), .int .i64 ((rd_T30 l1 x5_1).f1)]] (by rfl) rfl rfl (by (try simp only [List.map_toArray, List.map_cons, List.map_nil]); first | done | rfl | (simp only [List.length_drop, List.length_take]; rfl)) ?_
                with_reducible refine (laws_eqFrac.calls ((rd_T30 l0 x5_1).f0) ((rd_T30 l0 x5_1).f1) ((rd_T30 l1 x5_1).f0) ((rd_T30 l1 x5_1).f1) true _ A7.out).mono ?_
                rintro e w10 ⟨rfl, hb⟩
                refine ⟨_, rfl, ?_⟩
                have n0_ := Aside0.mk (below_step (by repeat (first | (with_reducible first | exact HB.out | apply below_alloc | apply pw_below_drewN | apply below_drew1) | exact HB.out)) hb)
                clear HB
                have HB := n0_
                clear n0_
                (try clear hb)
                (try clear hb2)
                (try clear hk)
                (try clear hi)
                refine hK.out _ _ ⟨((HB.out.cell (World.block_lt_of_cell? w _ hw242_0)).trans hw242_0), ((HB.out.cell (World.block_lt_of_cell? w _ hw242_1)).trans hw242_1), ((HB.out.cell (World.block_lt_of_cell? w _ hw243_0)).trans hw243_0), ((HB.out.cell (World.block_lt_of_cell? w _ hw243_1)).trans hw243_1)⟩ (fun hHeld => ?_)
                clear hK K
                refine norm_ (a' := ?_) ?_ ?_
                rotate_left
                · show Act.put _ (some 25) _ = _
                  simp only [Act.put, List.setIfInBounds_toArray, List.set_cons_zero, List.set_cons_succ, i64_w, i32_w]
                  rfl
                refine pure_ (i := 9) (N := some 26) (v := ?_) (a' := ?_) #[true, true, true, true, true, true, true, true, true, true] rfl rfl (any_of HT_.out (by kernel_rfl)) (fun _ _ _ h => h) (Or.inl ⟨by rfl, ?_⟩) ?_ ?_
                rotate_left
                · intro w'
                  go_simp
                  with_reducible rfl
                rotate_left
                · simp only [Act.put, List.setIfInBounds_toArray, List.set_cons_zero, List.set_cons_succ, i64_w, i32_w]
                  rfl
                refine done_ (done_of HT_.out (by kernel_rfl)) ?_
                try go_wp2
                go_roundg k1
                case measure => have := HK1.out; omega
                case rel => exact ⟨(wrap64 (x5_1 + 1)), (by first | rfl | (simp; done) | (simp [*]; done)), H', ⟨by have := HK1.out; omega⟩, ⟨by repeat (first | (with_reducible first | exact HB.out | apply below_alloc | apply pw_below_drewN | apply below_drew1) | exact HB.out)⟩⟩
              · replace c8 := Bool.eq_false_iff.mpr c8
                subst c8
                have H1 : (some false) = some r := by rw [if_neg (show ¬ (false = true) by decide)] at H; exact H
                clear H
                have H := H1
                clear H1
                obtain rfl := Option.some.inj H
                try go_wp2
                have n0_ := Aside0.mk (below_drew1 HB.out)
                clear HB
                have HB := n0_
                clear n0_
                have p242 : 0 ≤ (x5_1 : Int) := of_decide_eq_true (by first | (with_reducible assumption) | assumption)
                have q242 : x5_1 < (l0.length : Int) := of_decide_eq_true (by first | (with_reducible assumption) | assumption)
                obtain ⟨ad242, e242, hx242_0, hx242_1⟩ := at_T30 HR0.out x5_1 p242 q242
                have hw242_1 := hx242_1
                have hw242_0 := hx242_0
                cases e242
                replace hx242_0 := (HB.out.cell (World.block_lt_of_cell? w _ hx242_0)).trans hx242_0
                replace hx242_1 := (HB.out.cell (World.block_lt_of_cell? w _ hx242_1)).trans hx242_1
                replace p242 := eq_true p242
                replace q242 := eq_true q242
                have p243 : 0 ≤ (x5_1 : Int) := of_decide_eq_true (by first | (with_reducible assumption) | assumption)
                have q243 : x5_1 < (l1.length : Int) := of_decide_eq_true (by first | (with_reducible assumption) | assumption)
                obtain ⟨ad243, e243, hx243_0, hx243_1⟩ := at_T30 HR1.out x5_1 p243 q243
                have hw243_1 := hx243_1
                have hw243_0 := hx243_0
                cases e243
                replace hx243_0 := (HB.out.cell (World.block_lt_of_cell? w _ hx243_0)).trans hx243_0
                replace hx243_1 := (HB.out.cell (World.block_lt_of_cell? w _ hx243_1)).trans hx243_1
                replace p243 := eq_true p243
                replace q243 := eq_true q243
                refine start_ (n := 10) (S := fun w' => w'.cell? (ad242.add ((x5_1).toNat * 2)) = some (.int .i64 ((rd_T30 l0 x5_1).f0)) ∧ w'.cell? ⟨(ad242.add ((x5_1).toNat * 2)).block, (ad242.add ((x5_1).toNat * 2)).off + 1, none⟩ = some (.int .i64 ((rd_T30 l0 x5_1).f1)) ∧ w'.cell? (ad243.add ((x5_1).toNat * 2)) = some (.int .i64 ((rd_T30 l1 x5_1).f0)) ∧ w'.cell? ⟨(ad243.add ((x5_1).toNat * 2)).block, (ad243.add ((x5_1).toNat * 2)).off + 1, none⟩ = some (.int .i64 ((rd_T30 l1 x5_1).f1))) (ds := []) #[false, false, false, false, false, false, false, false, false, false] (by kernel_rfl) rfl rfl ⟨((HB.out.cell (World.block_lt_of_cell? w _ hw242_0)).trans hw242_0), ((HB.out.cell (World.block_lt_of_cell? w _ hw242_1)).trans hw242_1), ((HB.out.cell (World.block_lt_of_cell? w _ hw243_0)).trans hw243_0), ((HB.out.cell (World.block_lt_of_cell? w _ hw243_1)).trans hw243_1)⟩ (fun hHeld => ?_); refine with_tabW laws_eqFracS.tab6 laws_eqFracS.bits6 (fun HT_ HW_ => ?_)
                generalize wr.drew = w11 at HB hx242_0 hx242_1 hx243_0 hx243_1 hHeld ⊢
                refine pure_ (i := 0) (N := some 17) (v := ?_) (a' := ?_) #[true, false, false, false, false, false, false, false, false, false] rfl rfl (any_of HT_.out (by kernel_rfl)) (fun _ _ _ h => h) (Or.inl ⟨by rfl, ?_⟩) ?_ ?_
                rotate_left
                · intro w'
                  go_simp
                  with_reducible rfl
                rotate_left
                · simp only [Act.put, List.setIfInBounds_toArray, List.set_cons_zero, List.set_cons_succ, i64_w, i32_w]
                  rfl
                refine pure_ (i := 1) (N := some 18) (v := ?_) (a' := ?_) #[true, true, false, false, false, false, false, false, false, false] rfl rfl (any_of HT_.out (by kernel_rfl)) (fun _ _ _ h => h) (Or.inl ⟨by rfl, ?_⟩) ?_ ?_
                rotate_left
                · intro w'
                  go_simp
                  with_reducible rfl
                rotate_left
                · simp only [Act.put, List.setIfInBounds_toArray, List.set_cons_zero, List.set_cons_succ, i64_w, i32_w]
                  rfl
                refine pure_ (i := 2) (N := some 19) (v := ?_) (a' := ?_) #[true, true, true, false, false, false, false, false, false, false] rfl rfl (any_of HT_.out (by kernel_rfl)) (fun _ _ _ h => h) (Or.inl ⟨by rfl, ?_⟩) ?_ ?_
                rotate_left
                · intro w'
                  go_simp
                  with_reducible rfl
                rotate_left
                · simp only [Act.put, List.setIfInBounds_toArray, List.set_cons_zero, List.set_cons_succ, i64_w, i32_w]
                  rfl
                refine pure_ (i := 4) (N := some 21) (v := ?_) (a' := ?_) #[true, true, true, false, true, false, false, false, false, false] rfl rfl (any_of HT_.out (by kernel_rfl)) (fun _ _ _ h => h) (Or.inl ⟨by rfl, ?_⟩) ?_ ?_
                rotate_left
                · intro w'
                  go_simp
                  with_reducible rfl
                rotate_left
                · simp only [Act.put, List.setIfInBounds_toArray, List.set_cons_zero, List.set_cons_succ, i64_w, i32_w]
                  rfl
                refine pure_ (i := 5) (N := some 22) (v := ?_) (a' := ?_) #[true, true, true, false, true, true, false, false, false, false] rfl rfl (any_of HT_.out (by kernel_rfl)) (fun _ _ _ h => h) (Or.inl ⟨by rfl, ?_⟩) ?_ ?_
                rotate_left
                · intro w'
                  go_simp
                  with_reducible rfl
                rotate_left
                · simp only [Act.put, List.setIfInBounds_toArray, List.set_cons_zero, List.set_cons_succ, i64_w, i32_w]
                  rfl
                refine pure_ (i := 6) (N := some 23) (v := ?_) (a' := ?_) #[true, true, true, false, true, true, true, false, false, false] rfl rfl (any_of HT_.out (by kernel_rfl)) (fun _ _ _ h => h) (Or.inl ⟨by rfl, ?_⟩) ?_ ?_
                rotate_left
                · intro w'
                  go_simp
                  with_reducible rfl
                rotate_left
                · simp only [Act.put, List.setIfInBounds_toArray, List.set_cons_zero, List.set_cons_succ, i64_w, i32_w]
                  rfl
                refine take_ (i := 3) (N := some 20) (v := ?_) (a' := ?_) #[true, true, true, true, true, true, true, false, false, false] rfl rfl (take_ofW HT_.out HW_.out (by kernel_rfl)) (fun _ _ _ h => h) (Or.inl ⟨by rfl, ?_⟩) hHeld ?_ ?_
                rotate_left
                · rintro w' ⟨s0, s1, s2, s3⟩
                  go_simp
                  with_reducible rfl
                rotate_left
                · simp only [Act.put, List.setIfInBounds_toArray, List.set_cons_zero, List.set_cons_succ, i64_w, i32_w]
                  rfl
                refine take_ (i := 7) (N := some 24) (v := ?_) (a' := ?_) #[true, true, true, true, true, true, true, true, false, false] rfl rfl (take_ofW HT_.out HW_.out (by kernel_rfl)) (fun _ _ _ h => h) (Or.inl ⟨by rfl, ?_⟩) hHeld ?_ ?_
                rotate_left
                · rintro w' ⟨s0, s1, s2, s3⟩
                  go_simp
                  with_reducible rfl
                rotate_left
                · simp only [Act.put, List.setIfInBounds_toArray, List.set_cons_zero, List.set_cons_succ, i64_w, i32_w]
                  rfl
                refine one_ (i := 8) (N := some 25) #[true, true, true, true, true, true, true, true, true, false] rfl rfl (one_of HT_.out (by kernel_rfl)) (by decide) (fun K hK => ?_)
                refine goes_ Try.func46 (by kernel_rfl) rfl #[.agg #[.int .i64 ((rd_T30 l0 x5_1).f0), .int .i64 ((rd_T30 l0 x5_1).f1)], .agg #[.int .i64 ((rd_T30 l1 x5_1).f0), .int .i64 ((rd_T30 l1 x5_1).f1)]] (by rfl) rfl rfl (by (try simp only [List.map_toArray, List.map_cons, List.map_nil]); first | done | rfl | (simp only [List.length_drop, List.length_take]; rfl)) ?_
                with_reducible refine (laws_eqFrac.calls ((rd_T30 l0 x5_1).f0) ((rd_T30 l0 x5_1).f1) ((rd_T30 l1 x5_1).f0) ((rd_T30 l1 x5_1).f1) false _ A7.out).mono ?_
                rintro e w12 ⟨rfl, hb⟩
                refine ⟨_, rfl, ?_⟩
                have n0_ := Aside0.mk (below_step (by repeat (first | (with_reducible first | exact HB.out | apply below_alloc | apply pw_below_drewN | apply below_drew1) | exact HB.out)) hb)
                clear HB
                have HB := n0_
                clear n0_
                (try clear hb)
                (try clear hb2)
                (try clear hk)
                (try clear hi)
                refine hK.out _ _ ⟨((HB.out.cell (World.block_lt_of_cell? w _ hw242_0)).trans hw242_0), ((HB.out.cell (World.block_lt_of_cell? w _ hw242_1)).trans hw242_1), ((HB.out.cell (World.block_lt_of_cell? w _ hw243_0)).trans hw243_0), ((HB.out.cell (World.block_lt_of_cell? w _ hw243_1)).trans hw243_1)⟩ (fun hHeld => ?_)
                clear hK K
                refine norm_ (a' := ?_) ?_ ?_
                rotate_left
                · show Act.put _ (some 25) _ = _
                  simp only [Act.put, List.setIfInBounds_toArray, List.set_cons_zero, List.set_cons_succ, i64_w, i32_w]
                  rfl
                refine pure_ (i := 9) (N := some 26) (v := ?_) (a' := ?_) #[true, true, true, true, true, true, true, true, true, true] rfl rfl (any_of HT_.out (by kernel_rfl)) (fun _ _ _ h => h) (Or.inl ⟨by rfl, ?_⟩) ?_ ?_
                rotate_left
                · intro w'
                  go_simp
                  with_reducible rfl
                rotate_left
                · simp only [Act.put, List.setIfInBounds_toArray, List.set_cons_zero, List.set_cons_succ, i64_w, i32_w]
                  rfl
                refine done_ (done_of HT_.out (by kernel_rfl)) ?_
                try go_wp2
                go_ret
                exact ⟨by first | rfl | (simp [errW_none, errW_some] <;> rfl) | (simp [*, errW_none, errW_some] <;> rfl), by repeat (first | (with_reducible first | exact HB.out | apply below_alloc | apply pw_below_drewN | apply below_drew1) | exact HB.out)⟩
            · rw [if_neg c6] at H
              exact absurd H (by simp)
          · rw [if_neg c5] at H
            exact absurd H (by simp)
        · rw [if_neg c4] at H
          have c4b0 : decide (x5_1 < (l0.length : Int)) = false := decide_eq_false c4
          clear c4
          obtain rfl := Option.some.inj H
          go_wp2
          go_ret
          exact ⟨by first | rfl | (simp [errW_none, errW_some] <;> rfl) | (simp [*, errW_none, errW_some] <;> rfl), by repeat (first | (with_reducible first | exact HB.out | apply below_alloc | apply pw_below_drewN | apply below_drew1) | exact HB.out)⟩
  · rw [if_neg c3] at H
    exact absurd H (by simp)
theorem laws_eqFracS.loop (l : List S30) (hn : l.length ≤ 35184372088832) : ∀ d i : Nat, i + d = l.length → ∀ K, d < K → laws_eqFracS.l0 K l l i = some true := by
  intro d
  induction d with
  | zero =>
    intro i hi K hK
    obtain ⟨K, rfl⟩ := pos_succ hK
    unfold laws_eqFracS.l0
    rw [if_neg (by omega)]
  | succ d ih =>
    intro i hi K hK
    obtain ⟨K, rfl⟩ := pos_succ hK
    unfold laws_eqFracS.l0
    rw [if_pos (by omega), if_pos (by omega), if_pos (by omega)]
    unfold laws_eqFrac.f
    rw [if_pos rfl, if_pos rfl]
    simp only [Option.bind_some, if_true]
    rw [wrap_succ i l.length (by omega) hn, ih (i + 1) (by omega) K (by omega)]
def laws_eqFracS_c.f (l0 : List (S30)) (l1 : List (S30)) : Option (Bool) := if l0.length ≤ 35184372088832 ∧ l0.map (fun x => (x.f0, x.f1)) = l1.map (fun x => (x.f0, x.f1)) then some true else none
theorem laws_eqFracS_c.ev (l0 : List (S30)) (l1 : List (S30)) (r : Bool) (h : laws_eqFracS_c.f l0 l1 = some r) : ∃ k, laws_eqFracS.f k l0 l1 = some r := by
  unfold laws_eqFracS_c.f at h
  split at h
  · rename_i hn
    obtain ⟨hn, he⟩ := hn
    obtain rfl : l0 = l1 := map_inj' (fun a b e => by cases a; cases b; simp_all) he
    refine ⟨l0.length + 1, ?_⟩
    unfold laws_eqFracS.f
    rw [if_pos rfl]
    exact (laws_eqFracS.loop l0 hn l0.length 0 (by omega) (l0.length + 1) (by omega)).trans h
  · cases h
theorem laws_eqFracS_c.calls (A0 : Option Addr) (c0 : Nat) (l0 : List (S30)) (A1 : Option Addr) (c1 : Nat) (l1 : List (S30)) (r : Bool) (w : World) (hr0 : Kd.C k30 w A0 l0.length l0) (hc0 : l0.length ≤ c0) (hr1 : Kd.C k30 w A1 l1.length l1) (hc1 : l1.length ≤ c1) (h : laws_eqFracS_c.f l0 l1 = some r) :
    Calls Try.prog 47 #[.slice A0 l0.length c0, .slice A1 l1.length c1] w fun e w' => e = .returned (.bool r) ∧ Below w.heap.size w w' := by
  obtain ⟨k, hk⟩ := laws_eqFracS_c.ev _ _ _ h
  apply laws_eqFracS.calls (k := k) (h := hk) <;> assumption
end Go.Proofs.Ytnffoddeppimkaa.P
namespace Go.Proofs.Ytnffoddeppimkaa.P
open Go.RowKit Go.Proofs.YtnffoddeppimkaaW.PrintWords Go.Proofs.YtnffoddeppimkaaW.PrintLast Go.Proofs.YtnffoddeppimkaaW.PrintMore
attribute [local go_sem] max2_int min2_int max_two min_two max_three min_three max_four min_four
set_option linter.unusedVariables false
set_option linter.unusedSimpArgs false
def laws_eqLedger.f (a0_0 : Int) (a0_1 : Int) (l0_2 : List (S30)) (a1_0 : Int) (a1_1 : Int) (l1_2 : List (S30)) : Option (Bool) := (laws_eqFrac.f a0_0 a0_1 a1_0 a1_1).bind fun t247 => (if t247 = true then ((laws_eqFracS_c.f l0_2 l1_2).bind fun t248 => (if t248 = true then (some true) else (none))) else (none))
set_option maxHeartbeats 8000000 in
set_option maxRecDepth 100000 in
theorem laws_eqLedger.calls (a0_0 : Int) (a0_1 : Int) (A0_2 : Option Addr) (c0_2 : Nat) (l0_2 : List (S30)) (a1_0 : Int) (a1_1 : Int) (A1_2 : Option Addr) (c1_2 : Nat) (l1_2 : List (S30)) (r : Bool) (w : World) (hr0_2 : Kd.C k30 w A0_2 l0_2.length l0_2) (hc0_2 : l0_2.length ≤ c0_2) (hr1_2 : Kd.C k30 w A1_2 l1_2.length l1_2) (hc1_2 : l1_2.length ≤ c1_2) (h : laws_eqLedger.f a0_0 a0_1 l0_2 a1_0 a1_1 l1_2 = some r) :
    Calls Try.prog 19 #[.agg #[.int .i64 a0_0, .int .i64 a0_1, .slice A0_2 l0_2.length c0_2], .agg #[.int .i64 a1_0, .int .i64 a1_1, .slice A1_2 l1_2.length c1_2]] w fun e w' => e = .returned (.bool r) ∧ Below w.heap.size w w' := by
  have hu33 := Try.underlying33
  have hu30 := Try.underlying30
  have HR0_2 := Aside0.mk hr0_2
  have HC0_2 := Aside0.mk hc0_2
  clear hr0_2 hc0_2
  have HR1_2 := Aside0.mk hr1_2
  have HC1_2 := Aside0.mk hc1_2
  clear hr1_2 hc1_2
  have HB := Aside0.mk (Below.refl w.heap.size w)
  have H : ((laws_eqFrac.f a0_0 a0_1 a1_0 a1_1).bind fun t247 => (if t247 = true then ((laws_eqFracS_c.f l0_2 l1_2).bind fun t248 => (if t248 = true then (some true) else (none))) else (none))) = some r := h
  clear h
  replace H := Option.bind_eq_some_iff.mp H
  obtain ⟨t247, A30, H⟩ := H
  replace H : (if t247 = true then ((laws_eqFracS_c.f l0_2 l1_2).bind fun t248 => (if t248 = true then (some true) else (none))) else (none)) = some r := H
  have A3 := Aside0.mk A30
  clear A30
  by_cases c4 : t247 = true
  · subst c4
    have H1 : ((laws_eqFracS_c.f l0_2 l1_2).bind fun t248 => (if t248 = true then (some true) else (none))) = some r := by rw [if_pos rfl] at H; exact H
    clear H
    have H := H1
    clear H1
    replace H := Option.bind_eq_some_iff.mp H
    obtain ⟨t248, A50, H⟩ := H
    replace H : (if t248 = true then (some true) else (none)) = some r := H
    have A5 := Aside0.mk A50
    clear A50
    by_cases c6 : t248 = true
    · subst c6
      have H1 : (some true) = some r := by rw [if_pos rfl] at H; exact H
      clear H
      have H := H1
      clear H1
      obtain rfl := Option.some.inj H
      go_enter Try.func19, Try.ntmps19
      go_wp2_with (first | ((with_reducible refine gate_dst (N := 2) rfl ?_); refine box_event ?hg (N := 2) ?hd (cs := #[.int .i64 a0_0, .int .i64 a0_1, .slice A0_2 l0_2.length c0_2]) (t := 33) ?hr ?_; (case hd => rfl); (case hg => rfl); (case hr => first | (go_simp; done) | (go_simp; rfl)); intro gb245 hg w7 hbox hb; have n0_ := Aside0.mk (below_step (by repeat (first | (with_reducible first | exact HB.out | apply below_alloc | apply pw_below_drewN | apply below_drew1) | exact HB.out)) hb); have n1_ := Aside0.mk (hbox); have n2_ := Aside0.mk ((by rw [hg]; exact (below_size (by repeat (first | (with_reducible first | exact HB.out | apply below_alloc | apply pw_below_drewN | apply below_drew1) | exact HB.out))) : w.heap.size ≤ gb245)); have n3_ := Aside0.mk ((by rw [hg]; exact (below_size (by repeat (first | (with_reducible first | exact HB.out | apply below_alloc | apply pw_below_drewN | apply below_drew1) | exact HB.out))) : w.heap.size ≤ gb245)); clear HB; have HB := n0_; have BK245 := n1_; have GW245 := n2_; have GE245 := n3_; clear n0_ n1_ n2_ n3_; clear hb hbox hg) | ((with_reducible refine gate_dst (N := 3) rfl ?_); refine box_event ?hg (N := 3) ?hd (cs := #[.int .i64 a1_0, .int .i64 a1_1, .slice A1_2 l1_2.length c1_2]) (t := 33) ?hr ?_; (case hd => rfl); (case hg => rfl); (case hr => first | (go_simp; done) | (go_simp; rfl)); intro gb246 hg w8 hbox hb; have n0_ := Aside0.mk (blk_below (g := gb245) (o := .cells #[.int .i64 a0_0, .int .i64 a0_1, .slice A0_2 l0_2.length c0_2] 33 (0, 0)) (by (with_reducible repeat (first | refine blk_drewN ?_ _ | refine blk_drew ?_ | refine blk_alloc ?_ _)); exact BK245.out) hb); have n1_ := Aside0.mk (below_step (by repeat (first | (with_reducible first | exact HB.out | apply below_alloc | apply pw_below_drewN | apply below_drew1 | refine below_set ?_ GE245.out) | exact HB.out)) hb); have n2_ := Aside0.mk (hbox); have n3_ := Aside0.mk ((by rw [hg]; exact (below_size (by repeat (first | (with_reducible first | exact HB.out | apply below_alloc | apply pw_below_drewN | apply below_drew1 | refine below_set ?_ GE245.out) | exact HB.out))) : w.heap.size ≤ gb246)); have n4_ := Aside0.mk ((by rw [hg]; exact (below_size (by repeat (first | (with_reducible first | exact HB.out | apply below_alloc | apply pw_below_drewN | apply below_drew1 | refine below_set ?_ GE245.out) | exact HB.out))) : w.heap.size ≤ gb246)); have n5_ := Aside0.mk ((by rw [hg]; exact Nat.ne_of_lt (blk_lt (g := gb245) (o := .cells #[.int .i64 a0_0, .int .i64 a0_1, .slice A0_2 l0_2.length c0_2] 33 (0, 0)) (by (with_reducible repeat (first | refine blk_drewN ?_ _ | refine blk_drew ?_ | refine blk_alloc ?_ _)); exact BK245.out)) : gb245 ≠ gb246)); have n6_ := Aside0.mk ((by rw [hg]; exact Nat.ne_of_gt (blk_lt (g := gb245) (o := .cells #[.int .i64 a0_0, .int .i64 a0_1, .slice A0_2 l0_2.length c0_2] 33 (0, 0)) (by (with_reducible repeat (first | refine blk_drewN ?_ _ | refine blk_drew ?_ | refine blk_alloc ?_ _)); exact BK245.out)) : gb246 ≠ gb245)); clear BK245; clear HB; have BK245 := n0_; have HB := n1_; have BK246 := n2_; have GW246 := n3_; have GE246 := n4_; have NB245_246 := n5_; have NB246_245 := n6_; clear n0_ n1_ n2_ n3_ n4_ n5_ n6_; clear hb hbox hg; have hnb9 := NB245_246.out; have hnc9 := NB246_245.out; have hcz10_0 : w8.cell? ⟨gb245, 0, none⟩ = some (.int .i64 a0_0) := (blk_cell BK245.out 0).trans rfl; have hcz10_1 : w8.cell? ⟨gb245, 1, none⟩ = some (.int .i64 a0_1) := (blk_cell BK245.out 1).trans rfl; have hcz10_2 : w8.cell? ⟨gb245, 2, none⟩ = some (.slice A0_2 l0_2.length c0_2) := (blk_cell BK245.out 2).trans rfl; have hfz10_0 := blk_frozen BK245.out 0; have hfz10_1 := blk_frozen BK245.out 1; have hfz10_2 := blk_frozen BK245.out 2; have hcz11_0 : w8.cell? ⟨gb246, 0, none⟩ = some (.int .i64 a1_0) := (blk_cell BK246.out 0).trans rfl; have hcz11_1 : w8.cell? ⟨gb246, 1, none⟩ = some (.int .i64 a1_1) := (blk_cell BK246.out 1).trans rfl; have hcz11_2 : w8.cell? ⟨gb246, 2, none⟩ = some (.slice A1_2 l1_2.length c1_2) := (blk_cell BK246.out 2).trans rfl; have hfz11_0 := blk_frozen BK246.out 0; have hfz11_1 := blk_frozen BK246.out 1; have hfz11_2 := blk_frozen BK246.out 2) | ((with_reducible refine gate_callee (f := 46) rfl ?_); refine goesL_ (some 9) rfl rfl Try.func46 (by kernel_rfl) rfl #[.agg #[.int .i64 a0_0, .int .i64 a0_1], .agg #[.int .i64 a1_0, .int .i64 a1_1]] rfl (by (try simp only [List.map_toArray, List.map_cons, List.map_nil]); first | done | rfl | (simp only [List.length_drop, List.length_take]; rfl)) ?_; (with_reducible refine (laws_eqFrac.calls a0_0 a0_1 a1_0 a1_1 true _ A3.out).mono ?_); rintro e w12 ⟨rfl, hb⟩; refine ⟨_, rfl, ?_⟩; have n0_ := Aside0.mk (blk_below (g := gb245) (o := .cells #[.int .i64 a0_0, .int .i64 a0_1, .slice A0_2 l0_2.length c0_2] 33 (0, 0)) (by (with_reducible repeat (first | refine blk_drewN ?_ _ | refine blk_drew ?_ | refine blk_alloc ?_ _)); exact BK245.out) hb); have n1_ := Aside0.mk (blk_below (g := gb246) (o := .cells #[.int .i64 a1_0, .int .i64 a1_1, .slice A1_2 l1_2.length c1_2] 33 (0, 0)) (by (with_reducible repeat (first | refine blk_drewN ?_ _ | refine blk_drew ?_ | refine blk_alloc ?_ _)); exact BK246.out) hb); have n2_ := Aside0.mk (below_step (by repeat (first | (with_reducible first | exact HB.out | apply below_alloc | apply pw_below_drewN | apply below_drew1 | refine below_set ?_ GE245.out | refine below_set ?_ GE246.out) | exact HB.out)) hb); clear BK245; clear BK246; clear HB; have BK245 := n0_; have BK246 := n1_; have HB := n2_; clear n0_ n1_ n2_; (try clear hb); (try clear hb2); (try clear hk); (try clear hi); have hcz13_0 : w12.cell? ⟨gb245, 0, none⟩ = some (.int .i64 a0_0) := (blk_cell BK245.out 0).trans rfl; have hcz13_1 : w12.cell? ⟨gb245, 1, none⟩ = some (.int .i64 a0_1) := (blk_cell BK245.out 1).trans rfl; have hcz13_2 : w12.cell? ⟨gb245, 2, none⟩ = some (.slice A0_2 l0_2.length c0_2) := (blk_cell BK245.out 2).trans rfl; have hfz13_0 := blk_frozen BK245.out 0; have hfz13_1 := blk_frozen BK245.out 1; have hfz13_2 := blk_frozen BK245.out 2; have hcz14_0 : w12.cell? ⟨gb246, 0, none⟩ = some (.int .i64 a1_0) := (blk_cell BK246.out 0).trans rfl; have hcz14_1 : w12.cell? ⟨gb246, 1, none⟩ = some (.int .i64 a1_1) := (blk_cell BK246.out 1).trans rfl; have hcz14_2 : w12.cell? ⟨gb246, 2, none⟩ = some (.slice A1_2 l1_2.length c1_2) := (blk_cell BK246.out 2).trans rfl; have hfz14_0 := blk_frozen BK246.out 0; have hfz14_1 := blk_frozen BK246.out 1; have hfz14_2 := blk_frozen BK246.out 2) | ((with_reducible refine gate_callee (f := 47) rfl ?_); refine goesL_ (some 15) rfl rfl Try.func47 (by kernel_rfl) rfl #[.slice A0_2 l0_2.length c0_2, .slice A1_2 l1_2.length c1_2] rfl (by (try simp only [List.map_toArray, List.map_cons, List.map_nil]); first | done | rfl | (simp only [List.length_drop, List.length_take]; rfl)) ?_; (with_reducible refine (laws_eqFracS_c.calls _ _ l0_2 _ _ l1_2 true _ ?side1 ?side2 ?side3 ?side4 A5.out).mono ?_); (case side1 => repeat (first | exact (Kd.C_below HR0_2.out HB.out) | (with_reducible refine Kd.C_alloc ?_ _) | (with_reducible refine Kd.C_drewN ?_ _) | (with_reducible refine Kd.C_drew ?_))); (case side2 => exact HC0_2.out); (case side3 => repeat (first | exact (Kd.C_below HR1_2.out HB.out) | (with_reducible refine Kd.C_alloc ?_ _) | (with_reducible refine Kd.C_drewN ?_ _) | (with_reducible refine Kd.C_drew ?_))); (case side4 => exact HC1_2.out); rintro e w15 ⟨rfl, hb⟩; refine ⟨_, rfl, ?_⟩; have n0_ := Aside0.mk (blk_below (g := gb245) (o := .cells #[.int .i64 a0_0, .int .i64 a0_1, .slice A0_2 l0_2.length c0_2] 33 (0, 0)) (by (with_reducible repeat (first | refine blk_drewN ?_ _ | refine blk_drew ?_ | refine blk_alloc ?_ _)); exact BK245.out) hb); have n1_ := Aside0.mk (blk_below (g := gb246) (o := .cells #[.int .i64 a1_0, .int .i64 a1_1, .slice A1_2 l1_2.length c1_2] 33 (0, 0)) (by (with_reducible repeat (first | refine blk_drewN ?_ _ | refine blk_drew ?_ | refine blk_alloc ?_ _)); exact BK246.out) hb); have n2_ := Aside0.mk (below_step (by repeat (first | (with_reducible first | exact HB.out | apply below_alloc | apply pw_below_drewN | apply below_drew1 | refine below_set ?_ GE245.out | refine below_set ?_ GE246.out) | exact HB.out)) hb); clear BK245; clear BK246; clear HB; have BK245 := n0_; have BK246 := n1_; have HB := n2_; clear n0_ n1_ n2_; (try clear hb); (try clear hb2); (try clear hk); (try clear hi)))
      go_ret
      exact ⟨by first | rfl | (simp [errW_none, errW_some] <;> rfl) | (simp [*, errW_none, errW_some] <;> rfl), by repeat (first | (with_reducible first | exact HB.out | apply below_alloc | apply pw_below_drewN | apply below_drew1 | refine below_set ?_ GE245.out | refine below_set ?_ GE246.out) | exact HB.out)⟩
    · replace c6 := Bool.eq_false_iff.mpr c6
      subst c6
      have H1 : (none) = some r := by rw [if_neg (show ¬ (false = true) by decide)] at H; exact H
      clear H
      have H := H1
      clear H1
      exact absurd H (by simp)
  · replace c4 := Bool.eq_false_iff.mpr c4
    subst c4
    have H1 : (none) = some r := by rw [if_neg (show ¬ (false = true) by decide)] at H; exact H
    clear H
    have H := H1
    clear H1
    exact absurd H (by simp)
end Go.Proofs.Ytnffoddeppimkaa.P
namespace Go.Proofs.Ytnffoddeppimkaa.P
open Go.RowKit Go.Proofs.YtnffoddeppimkaaW.PrintWords Go.Proofs.YtnffoddeppimkaaW.PrintLast Go.Proofs.YtnffoddeppimkaaW.PrintMore
attribute [local go_sem] max2_int min2_int max_two min_two max_three min_three max_four min_four
set_option linter.unusedVariables false
set_option linter.unusedSimpArgs false
def laws_szIntS.f (l0 : List Int) (a1 : Int) : Option (Int) := if (wrap64 (a1 - (l0.length : Int))) < 0 then (some (-1)) else (some (wrap64 (a1 - (l0.length : Int))))
set_option maxHeartbeats 8000000 in
set_option maxRecDepth 100000 in
theorem laws_szIntS.calls (A0 : Option Addr) (c0 : Nat) (l0 : List Int) (a1 : Int) (r : Int) (w : World) (hr0 : Kd.C (Kd.int .i64) w A0 l0.length l0) (hc0 : l0.length ≤ c0) (h : laws_szIntS.f l0 a1 = some r) :
    Calls Try.prog 60 #[.slice A0 l0.length c0, .int .i64 a1] w fun e w' => e = .returned (.int .i64 r) ∧ Drawn0 w w' := by
  have HR0 := Aside0.mk hr0
  have HC0 := Aside0.mk hc0
  clear hr0 hc0
  have H : (if (wrap64 (a1 - (l0.length : Int))) < 0 then (some (-1)) else (some (wrap64 (a1 - (l0.length : Int))))) = some r := h
  clear h
  by_cases c3 : (wrap64 (a1 - (l0.length : Int))) < 0
  · rw [if_pos c3] at H
    have c3b0 : decide ((wrap64 (a1 - (l0.length : Int))) < 0) = true := decide_eq_true c3
    clear c3
    obtain rfl := Option.some.inj H
    go_enter Try.func60, Try.ntmps60
    go_wp2
    go_ret
    exact ⟨by first | rfl | (simp; done) | (simp [*]; done), by repeat (first | exact Drawn0.refl _ | apply Drawn0.step)⟩
  · rw [if_neg c3] at H
    have c3b0 : decide ((wrap64 (a1 - (l0.length : Int))) < 0) = false := decide_eq_false c3
    clear c3
    obtain rfl := Option.some.inj H
    go_enter Try.func60, Try.ntmps60
    go_wp2
    go_ret
    exact ⟨by first | rfl | (simp; done) | (simp [*]; done), by repeat (first | exact Drawn0.refl _ | apply Drawn0.step)⟩
end Go.Proofs.Ytnffoddeppimkaa.P
