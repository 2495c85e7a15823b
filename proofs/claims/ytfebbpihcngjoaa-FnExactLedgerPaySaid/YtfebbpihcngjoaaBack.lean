/- slices.Backward over fractions, and the linked list of charges that impl.chargesOf makes of a slice. -/
import Derived.Test.YtfebbpihcngjoaaFracC
import Derived.RangeFuncNested
import Derived.RangeFuncBound
import Derived.RangeFuncCalls
import Derived.RangeFuncLeaves
import Derived.Shelf.Abstract
import Derived.Shelf.RegionOpen
import Derived.OwnWalkIn
import Derived.TacticsInMore
import Derived.LoopNIn
import Derived.LoopIn
namespace Go.Proofs.Ytfebbpihcngjoaa
open Go.RowKit Go.Shelf
set_option linter.unusedVariables false
set_option linter.unusedSimpArgs false
attribute [local go_sem] Oper.semAt_some

/-- the slice value reads as these fractions -/
def FracsAt (w : World) (v : Value) (fs : List Fr) : Prop :=
  ∃ a cap, v = .slice a fs.length cap ∧ fs.length ≤ cap ∧ (fs = [] ∨ ∃ b off, a = some ⟨b, off, none⟩ ∧
    ∀ i f, fs[i]? = some f → w.cell? ⟨b, off + i * 2, none⟩ = some (.int .i64 f.n) ∧ w.cell? ⟨b, off + i * 2 + 1, none⟩ = some (.int .i64 f.d))

theorem FracsAt.below {w w1 : World} {v : Value} {fs : List Fr} (h : FracsAt w v fs) (hb : Below w.heap.size w w1) : FracsAt w1 v fs := by
  obtain ⟨a, cap, e, hl, h⟩ := h
  refine ⟨a, cap, e, hl, h.imp id ?_⟩
  rintro ⟨b, off, ea, hc⟩
  exact ⟨b, off, ea, fun i f hf => let ⟨h1, h2⟩ := hc i f hf; ⟨by rw [hb.cell (lt_of_cell h1)]; exact h1, by rw [hb.cell (lt_of_cell h2)]; exact h2⟩⟩

/-- what a round keeps: all below n₀, and the cell of the boxed slice -/
def KpB (n₀ Bs : Nat) (W W' : World) : Prop := Below n₀ W W' ∧ W'.cell? ⟨Bs, 0, none⟩ = W.cell? ⟨Bs, 0, none⟩
theorem KpB.t {n₀ Bs : Nat} {A B C : World} (h : KpB n₀ Bs A B) (k : KpB n₀ Bs B C) : KpB n₀ Bs A C := ⟨h.1.trans k.1, k.2.trans h.2⟩
theorem KpB.b {n₀ Bs : Nat} {w : World} (hn : n₀ ≤ w.heap.size) (hBs : Bs < w.heap.size) (W : World) (l : Nat) (o o' : Obj) (hl : w.heap.size ≤ l) (h : W.heap[l]? = some o) (h1 : o.isCells = false) (h2 : o.isWalk = false) : KpB n₀ Bs W (W.putObj l o') :=
  ⟨belowK_b hn W l o o' hl h h1 h2, World.cell?_of_block (World.putObj_heap_other (by show Bs ≠ l; omega))⟩

def upto {α : Type} (f : Nat → α) (k : Nat) : List α := (List.range k).map f
theorem upto_succ {α : Type} (f : Nat → α) (k : Nat) : upto f (k + 1) = upto f k ++ [f k] := by simp [upto, List.range_succ]
theorem upto_length {α : Type} (f : Nat → α) (k : Nat) : (upto f k).length = k := by simp [upto]
/-- what slices.Backward has yielded after so many rounds -/
def bk (fs : List Fr) (t : Nat) : Nat × Fr := (fs.length - 1 - t, (fs[fs.length - 1 - t]?).getD Fr.zero)
theorem upto_bk (fs : List Fr) : ((upto (bk fs) fs.length).map (·.2)).reverse = fs := by
  apply List.ext_getElem
  · simp [upto]
  · intro i h1 h2
    simp [upto, bk]
    have : fs.length - 1 - (fs.length - 1 - i) = i := by omega
    rw [this]; simp [h2]

set_option maxRecDepth 100000 in
set_option maxHeartbeats 2000000 in
theorem backward1_in (F : Fence) (n : Nat) (h8 : F.fn 100) (hro : F.round = none) (hn : 1 ≤ n) (l Bs n₀ b off cap : Nat) (fs : List Fr) (hreach : fs.length * 16 ≤ 140737488351232) (hb : b < n₀) (J Jx : List (Nat × Fr) → World → Prop)
    (hY : ∀ pre x W, J pre W → pre.length < fs.length → YieldAt F (n - 1) Try.prog l #[.int .i64 (x.1 : Int), x.2.v] W fun e W' =>
      (e = .returned (.bool true) ∧ J (pre ++ [x]) W' ∧ KpB n₀ Bs W W') ∨ (e = .returned (.bool false) ∧ Jx (pre ++ [x]) W'))
    (W : World) (hBc : W.cell? ⟨Bs, 0, none⟩ = some (.slice (some ⟨b, off, none⟩) fs.length cap))
    (hc : ∀ i f, fs[i]? = some f → W.cell? ⟨b, off + i * 2, none⟩ = some (.int .i64 f.n) ∧ W.cell? ⟨b, off + i * 2 + 1, none⟩ = some (.int .i64 f.d)) (h0 : J [] W) :
    CallsIn F n Try.prog 100 #[.func (.yield l) #[] #[], .pointer (some ⟨Bs, 0, none⟩)] W fun e W' => (∃ v, e = .returned v) ∧
      ((∃ ys, ys = upto (bk fs) fs.length ∧ J ys W') ∨ (∃ pre, (∃ k, k ≤ fs.length ∧ pre = upto (bk fs) k) ∧ Jx pre W')) := by
  refine callsIn_of_wp Try.func100 rfl h8 ?_ hro
  simp only [Try.ntmps100, List.size_toArray, List.length_cons, List.length_nil, Nat.reduceAdd, Nat.reduceSub, Array.replicate_succ, Array.replicate_zero, List.push_toArray, List.append_toArray, List.nil_append, List.cons_append]
  gi_wp2
  gi_loopw [3] (fun i wr => ∃ j : Nat, j ≤ fs.length ∧ i = .int .i64 ((fs.length : Int) - 1 - j) ∧ J (upto (bk fs) j) wr ∧ KpB n₀ Bs W wr)
    (fun i _ => (intOf i + 1).toNat)
  case atStart => exact ⟨0, Nat.zero_le _, by simp, h0, Below.refl _ _, rfl⟩
  case round =>
    obtain ⟨j, hj, rfl, hJs, hnx0⟩ := hrel
    have hnx := hnx0.1
    have hBc' := hnx0.2.trans hBc
    by_cases hlt : j < fs.length
    · obtain ⟨m, hm⟩ : ∃ m, m = fs.length - 1 - j := ⟨_, rfl⟩
      have hml : m < fs.length := by omega
      have hbk : bk fs j = (m, fs[m]) := by simp [bk, ← hm, hml]
      obtain ⟨c1, c2⟩ := hc m fs[m] (List.getElem?_eq_getElem hml)
      have c1' := (hnx.cell (p := ⟨b, off + m * 2, none⟩) hb).trans c1
      have c2' := (hnx.cell (p := ⟨b, off + m * 2 + 1, none⟩) hb).trans c2
      have hi : ((fs.length : Int) - 1 - j) = (m : Int) := by omega
      obtain ⟨fn, tmps, assign, body, hy, hR⟩ := hY _ (m, fs[m]) wr hJs (by rw [upto_length]; exact hlt)
      generalize fs[m] = f at *
      dsimp only [Fr.v] at hy
      rw [hi]
      have Hbk := Lib.hid hbk
      have Hm := Lib.hid hm
      clear hbk hm hi c1 c2 hc hBc
      gi_wp2
      refine hR.mono ?_
      rintro e W3 (⟨rfl, hJ3, hk3⟩ | ⟨rfl, hJx3⟩)
      · gi_wp2
        go_roundw
        case rel => exact ⟨j + 1, by omega, by have := Hm.out; congr 1 <;> omega, by rw [upto_succ, Hbk.out]; exact hJ3, hnx0.t hk3⟩
        case measure => (have := Hm.out; simp [intOf]; try omega)
      · gi_wp2
        refine bodyPost_ret (results_none rfl _ _ _) rfl ?_
        exact ⟨⟨_, rfl⟩, .inr ⟨_, ⟨j + 1, by omega, by rw [upto_succ, Hbk.out]⟩, hJx3⟩⟩
    · obtain rfl : j = fs.length := by omega
      have hi : ((fs.length : Int) - 1 - fs.length) = -1 := by omega
      rw [hi]
      clear hi hc hBc
      gi_wp2
      go_end0
      exact ⟨⟨_, rfl⟩, .inl ⟨_, rfl, hJs⟩⟩

set_option maxRecDepth 100000 in
set_option maxHeartbeats 1000000 in
theorem backward1_nil_in (F : Fence) (n : Nat) (h8 : F.fn 100) (hro : F.round = none) (l Bs : Nat) (a : Option Addr) (cap : Nat) (J : List (Nat × Fr) → World → Prop) (W : World) (hBs : W.cell? ⟨Bs, 0, none⟩ = some (.slice a 0 cap)) (h0 : J [] W) :
    CallsIn F n Try.prog 100 #[.func (.yield l) #[] #[], .pointer (some ⟨Bs, 0, none⟩)] W fun e W' => (∃ v, e = .returned v) ∧ J [] W' := by
  refine callsIn_of_wp Try.func100 rfl h8 ?_ hro
  simp only [Try.ntmps100, List.size_toArray, List.length_cons, List.length_nil, Nat.reduceAdd, Nat.reduceSub, Array.replicate_succ, Array.replicate_zero, List.push_toArray, List.append_toArray, List.nil_append, List.cons_append]
  gi_wp2
  gi_loopw [3] (fun i wr => i = .int .i64 (-1) ∧ J [] wr) (fun _ _ => 0)
  case atStart => exact ⟨by simp, h0⟩
  case round =>
    obtain ⟨rfl, hJs⟩ := hrel
    gi_wp2
    go_end0
    exact ⟨⟨_, rfl⟩, hJs⟩

theorem backward_in (F : Fence) (n : Nat) (h5 : F.fn 93) (hro : F.round = none) (a : Option Addr) (len cap : Nat) (w : World) :
    CallsIn F n Try.prog 93 #[.slice a len cap] w fun e w' => e = .returned (.func (.func 100) #[] #[.pointer (some ⟨w.heap.size, 0, none⟩)]) ∧ w' = w.alloc (.cells #[.slice a len cap] 29) := by
  refine callsIn_of_wp Try.func93 rfl h5 ?_ hro
  simp only [Try.ntmps93, List.size_toArray, List.length_cons, List.length_nil, Nat.reduceAdd, Nat.reduceSub, Array.replicate_succ, Array.replicate_zero, List.push_toArray, List.append_toArray, List.nil_append, List.cons_append]
  gi_wp2
  go_ret
  exact ⟨rfl, rfl⟩

theorem backward_stops (F : Fence) (n : Nat) (h8 : F.fn 100) (hro : F.round = none) (hn : 1 ≤ n) (Bs n₀ : Nat) (sv : Value) (fs : List Fr) (hreach : fs.length * 16 ≤ 140737488351232) (w : World) (hBs : Bs < w.heap.size)
    (hc : w.cell? ⟨Bs, 0, none⟩ = some sv) (hI : FracsAt w sv fs) (hlow : ∀ b off len cap, sv = .slice (some ⟨b, off, none⟩) len cap → 0 < len → b < n₀) :
    SeqStopsK F n Try.prog 100 #[.pointer (some ⟨Bs, 0, none⟩)] (fun x : Nat × Fr => #[.int .i64 (x.1 : Int), x.2.v]) (KpB n₀ Bs) (fun ys => ys = upto (bk fs) fs.length)
      (fun pre => ∃ k, k ≤ fs.length ∧ pre = upto (bk fs) k) fs.length w := fun l J Jx W hW _ _ hY h0 => by
  have hc' := (hW.cell (p := ⟨Bs, 0, none⟩) hBs).trans hc
  obtain ⟨a, cap, rfl, hle, h⟩ := hI.below hW
  by_cases hz : fs = []
  · subst hz
    exact (backward1_nil_in F n h8 hro l Bs a cap J W hc' h0).mono fun e W' ⟨he, hj⟩ => ⟨he, .inl ⟨_, rfl, hj⟩⟩
  · obtain ⟨b, off, rfl, hcs⟩ := h.resolve_left hz
    have hpos : 0 < fs.length := List.length_pos_iff.2 hz
    exact backward1_in F n h8 hro hn l Bs n₀ b off cap fs hreach (hlow b off _ _ rfl hpos) J Jx hY W hc' hcs h0

/-- a linked list of charges, in blocks from B on -/
def ChargeL (B : Nat) (w : World) : Option Addr → List Fr → Prop
  | p, [] => p = none
  | p, f :: r => ∃ b q, p = some ⟨b, 0, none⟩ ∧ B ≤ b ∧ w.cell? ⟨b, 0, none⟩ = some (.int .i64 f.n) ∧ w.cell? ⟨b, 1, none⟩ = some (.int .i64 f.d) ∧ w.cell? ⟨b, 2, none⟩ = some (.pointer q) ∧ ChargeL B w q r
theorem ChargeL.mono {B : Nat} {w w' : World} (hc : ∀ a v, w.cell? a = some v → B ≤ a.block → w'.cell? a = some v) : ∀ {fs : List Fr} {p : Option Addr}, ChargeL B w p fs → ChargeL B w' p fs
  | [], _, h => h
  | _ :: _, _, ⟨b, q, h1, h2, h3, h4, h5, h6⟩ => ⟨b, q, h1, h2, hc _ _ h3 h2, hc _ _ h4 h2, hc _ _ h5 h2, ChargeL.mono hc h6⟩

theorem ChargeL.low {B B' : Nat} {w : World} (hB : B' ≤ B) : ∀ {fs : List Fr} {p : Option Addr}, ChargeL B w p fs → ChargeL B' w p fs
  | [], _, h => h
  | _ :: _, _, ⟨b, q, h1, h2, h3, h4, h5, h6⟩ => ⟨b, q, h1, Nat.le_trans hB h2, h3, h4, h5, h6.low hB⟩

set_option maxRecDepth 100000 in
set_option maxHeartbeats 2000000 in
theorem chargesOf_in (F : Fence) (n : Nat) (h3 : F.fn 82) (h5 : F.fn 93) (h6 : F.fn 100) (hro : F.round = none) (hn : 3 ≤ n) (a : Option Addr) (cap : Nat) (fs : List Fr) (hreach : fs.length * 16 ≤ 140737488351232) (w : World) (hI : FracsAt w (.slice a fs.length cap) fs) :
    CallsIn F n Try.prog 82 #[.slice a fs.length cap] w fun e w' => ∃ p, e = .returned (.pointer p) ∧ ChargeL w.heap.size w' p fs ∧ Below w.heap.size w w' := by
  have h1 : 1 ≤ n := by omega
  refine callsIn_of_wp_marks Try.func82 rfl h3 ?_ hro
  simp only [Try.ntmps82, List.size_toArray, List.length_cons, List.length_nil, Nat.reduceAdd, Nat.reduceSub, Array.replicate_succ, Array.replicate_zero, List.push_toArray, List.append_toArray, List.nil_append, List.cons_append]
  gi_wp2_with (gi_at_call 93; refine (backward_in F (n - 1) h5 hro _ _ _ _).mono ?_; rintro e w' ⟨rfl, rfl⟩)
  have hs := Boxed.new w 108 (.pointer none)
  have hb := Boxed.new (w.alloc (.cells #[.pointer none] 108)) 29 (.slice a fs.length cap)
  rw [World.size_alloc] at hb
  have hI2 : FracsAt ((w.alloc (.cells #[.pointer none] 108)).alloc (.cells #[.slice a fs.length cap] 29)) (.slice a fs.length cap) fs := hI.below (bl_alloc (bl_alloc (bl_refl _) _) _)
  refine wpIn_rangeFunc_ownH hro h1 (gf := 100) (lb := #[.pointer (some ⟨w.heap.size + 1, 0, none⟩)]) rfl h6 (enters_of Try.func100 (by kernel_rfl) rfl)
    (backward_stops F (n - 1) h6 hro (by omega) (w.heap.size + 1) w.heap.size _ fs hreach _ (by simp) hb.cell hI2 ?low) KpB.t (KpB.b (by simp; omega) (by simp)) (Below.refl _ _) (fun _ => rfl)
    (fun pre W => (∃ p, Boxed W w.heap.size 108 (.pointer p) ∧ ChargeL (w.heap.size + 1) W p ((pre.map (·.2)).reverse)) ∧ (Below w.heap.size w W ∧ w.heap.size + 1 < W.heap.size))
    (fun _ _ _ => False)
    ?hI ?hIx ?h0
    (fun x a' W => ∃ Bx, w.heap.size + 1 < Bx ∧ W.cell? ⟨Bx, 0, none⟩ = some (.int .i64 x.2.n) ∧ W.cell? ⟨Bx, 1, none⟩ = some (.int .i64 x.2.d) ∧ a' = { tmps := #[.slice a fs.length cap, undef, .pointer none, .pointer (some ⟨w.heap.size, 0, none⟩), undef, .pointer (some ⟨Bx, 0, none⟩), .slice a fs.length cap, .func (.func 100) #[] #[.pointer (some ⟨w.heap.size + 1, 0, none⟩)], .int .i64 (x.1 : Int), x.2.v, undef, undef, undef, undef, undef], defers := [] })
    ?hAx ?assign ?body ?done ?stop
  case low =>
    rintro b off len cap' e hpos
    obtain ⟨a', cap'', e', hle, h⟩ := hI
    injection e with e1 e2 e3
    injection e' with e1' e2' e3'
    subst e1 e1'
    rcases h with rfl | ⟨b', off', e4, hc⟩
    · simp at e2; omega
    · cases e4
      obtain ⟨f, hf⟩ : ∃ f, fs[0]? = some f := ⟨fs[0]'(by omega), List.getElem?_eq_getElem (by omega)⟩
      have := lt_of_cell (hc 0 f hf).1
      simp at this; omega
  case hI =>
    refine OwnFrom.and (Own.from (fun s A B row hs hg hr => ?_) _) (OwnFrom.and (ownFrom_below (Nat.le_refl _) (by simp; omega)) (fun s A B row hs hg hr => Nat.lt_of_lt_of_le hs hg.size))
    obtain ⟨p, h1, h2⟩ := hs
    refine ⟨p, ?_, h2.mono fun a v h _ => cell_kept h hg hr⟩
    exact Own.from (boxed_own w.heap.size _ (fun _ : Unit => Value.pointer p)) 0 () A B row h1 hg (fun r e => ⟨Nat.zero_le _, hr r e⟩)
  case hIx => exact fun _ _ _ _ _ hs _ _ => hs
  case h0 => exact ⟨⟨none, hs.alloc _, rfl⟩, bl_alloc (bl_alloc (bl_refl _) _) _, by simp⟩
  case hAx =>
    rintro x a' _ A B row ⟨Bx, h1, h2, h3, h4⟩ hg hr
    exact ⟨Bx, h1, cell_kept h2 hg (fun r e => (hr r e).2), cell_kept h3 hg (fun r e => (hr r e).2), h4⟩
  case assign =>
    rintro l pre ⟨i, fn, fd⟩ W K ⟨⟨p, hp, hL⟩, hB, hsz⟩ hK
    simp only [Fr.v]
    gi_wp2
    refine hK _ _ ((KeepsOthers.alloc _ _).from _) ⟨(Below.refl _ W).alloc (by omega) _, World.cell?_alloc_lt _ _ _ (by show w.heap.size + 1 < _; omega)⟩ ⟨⟨p, hp.alloc _, hL.mono fun a v h hB' => ?_⟩, bl_alloc hB _, by simp; omega⟩ ⟨W.heap.size, hsz, ?_, ?_, rfl⟩
    · rw [World.cell?_alloc_lt _ _ _ (lt_of_cell h)]; exact h
    · go_simp
    · go_simp
  case body =>
    rintro l pre ⟨i, fn, fd⟩ a' W hl ⟨r, hr⟩ ⟨⟨p, hp, hL⟩, hB, hsz⟩ ⟨Bx, hBx, hx1, hx2, rfl⟩ hlt
    have hpc := hp.cell
    have hpf := hp.frozen
    have hwl := hp.lt
    simp only [Fr.v]
    gi_wp2
    have hsw : ∀ a v, (W.setCell a v).heap.size = W.heap.size := fun a v => by simp [World.setCell]
    refine ⟨((KeepsOthers.setCell _ _ _).trans (KeepsOthers.alloc _ _)).from _, ⟨((Below.refl w.heap.size W).setCell (p := ⟨w.heap.size, 0, none⟩) (Nat.le_refl _) _).alloc (by rw [hsw]; omega) _, ?_⟩, ⟨_, (hp.set _).alloc _, ?_⟩, bl_alloc (bl_set hB (Nat.le_refl _) _) _, by rw [World.size_alloc, hsw]; omega⟩
    · rw [World.cell?_alloc_lt _ _ _ (by rw [hsw]; show w.heap.size + 1 < _; omega), World.cell?_setCell_other _ _ _ _ (by simp)]
    · simp only [List.map_append, List.map_cons, List.map_nil, List.reverse_append, List.reverse_cons, List.reverse_nil, List.nil_append, List.singleton_append]
      refine ⟨W.heap.size, p, rfl, by omega, ?_, ?_, ?_, hL.mono fun a v h hB' => ?_⟩
      · rw [World.cell?_alloc_at _ _ _ _ (hsw _ _).symm]; rfl
      · rw [World.cell?_alloc_at _ _ _ _ (hsw _ _).symm]; rfl
      · rw [World.cell?_alloc_at _ _ _ _ (hsw _ _).symm]; rfl
      · rw [World.cell?_alloc_lt _ _ _ (by rw [hsw]; exact lt_of_cell h), World.cell?_setCell_other _ _ _ _ (by intro e; rw [← e] at hB'; simp at hB'; omega)]; exact h
  case done =>
    rintro D ys W hD rfl ⟨⟨p, hp, hL⟩, hB, hsz⟩ hK
    have hpc := hp.cell
    have hup := upto_bk fs
    rw [hup] at hL
    clear hup
    gi_wp2
    refine ⟨by simp, .inl ⟨_, _, rfl, run_takeDeferred hK, ?_⟩⟩
    refine ⟨_, results_tmp rfl _ _ _, p, rfl, ?_, ?_⟩
    · exact (hL.mono fun a v h _ => cell_kept h (grownBy_putObj' _ D (.deferred none)) (fun r e => by cases e; exact ⟨_, hK, rfl⟩)).low (by omega)
    · exact hB.trans (belowK_b (w := w) (Nat.le_refl _) W D _ _ (by simp at hD; omega) hK rfl rfl)
  case stop => exact fun _ _ _ _ _ _ h _ => h.elim

theorem chargesOf_c (v : Value) (fs : List Fr) (hreach : fs.length * 16 ≤ 140737488351232) (w : World) (hI : FracsAt w v fs) :
    Calls Try.prog 82 #[v] w fun e w' => ∃ p, e = .returned (.pointer p) ∧ ChargeL w.heap.size w' p fs ∧ Below w.heap.size w w' := by
  obtain ⟨a, cap, rfl, h⟩ := hI
  exact callsIn_wide.1 (chargesOf_in Fence.wide 3 trivial trivial trivial rfl (Nat.le_refl _) a cap fs hreach w ⟨a, cap, rfl, h⟩)

end Go.Proofs.Ytfebbpihcngjoaa
