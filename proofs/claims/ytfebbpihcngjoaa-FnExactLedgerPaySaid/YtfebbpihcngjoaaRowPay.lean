/- PROVED: laws.FnExactLedgerPay returns true for every ledger and every fraction, and the arguments read behind the call as they read before. Conditions: none. -/
import Derived.Test.YtfebbpihcngjoaaLawPay
import Derived.Test.YtfebbpihcngjoaaRows
import Derived.ProofKit
import Derived.OpenShut
import Derived.Carry
import Derived.Deep.Slices
namespace Go.Proofs.Ytfebbpihcngjoaa
open Go.ChangeShapes Go.WideShapes Go.ChangeAt Go.RowKit Go.WideElems
set_option linter.unusedVariables false
set_option linter.unusedSimpArgs false

theorem ownNone : ownKnob Try.prog.godebug = none := by kernel_rfl
theorem laidOut : laidOutB Try.prog = true := by kernel_rfl

section
variable {H : Type} {enc : TypeId × Value → H} {w : World} {base : Nat} {spare : Nat → Bool} {held : Bool}

theorem cells_argFrac : Try.prog.cellsOf 23 = 2 := by kernel_rfl
theorem cells_argLedger : Try.prog.cellsOf 26 = 3 := by kernel_rfl

theorem cells_int64 : Try.prog.cellsOf 3 = 1 := by kernel_rfl
theorem cells_fracs : Try.prog.cellsOf 24 = 1 := by kernel_rfl
theorem list2 {α : Type} {l : List α} (h : l.length = 2) : ∃ a b, l = [a, b] := by
  match l, h with
  | [a, b], _ => exact ⟨a, b, rfl⟩
theorem list3 {α : Type} {l : List α} (h : l.length = 3) : ∃ a b c, l = [a, b, c] := by
  match l, h with
  | [a, b, c], _ => exact ⟨a, b, c, rfl⟩

/-- a fraction that came in -/
theorem trod_frac {n : Nat} {cs : List Value} {x : DataW H × List MemPlace} (h : DataW.trod enc Try.prog w base spare held n 23 cs = some x) : ∃ a b, cs = [.int .i64 a, .int .i64 b] := by
  obtain ⟨y0, y1, n', _, hl, h0, h1⟩ := trod_struct2 Try.underlying23 h
  rw [cells_argFrac] at hl
  obtain ⟨c0, c1, rfl⟩ := list2 hl
  have k : Try.prog.cellsOf 3 = 1 := cells_int64
  simp only [k] at h0 h1
  obtain ⟨a, e0, _, _⟩ := DataW.trod_int Try.underlying3 h0
  obtain ⟨b, e1, _, _⟩ := DataW.trod_int Try.underlying3 h1
  simp at e0 e1
  exact ⟨a, b, by rw [e0, e1]⟩

/-- a slice of fractions that came in -/
theorem trod_fracs {n : Nat} {v : Value} {x : DataW H × List MemPlace} (h : DataW.trod enc Try.prog w base spare held n 24 [v] = some x) : ∃ fs, FracsAt w v fs ∧ fs.length ≤ maxLen := by
  rcases Go.Deep.open_slice Try.underlying24 h with ⟨e, _⟩ | ⟨a, len, cap, m, n', D, Pl, e, hb, hl, hm, hmm, _, hx⟩
  · injection e with e; subst e
    exact ⟨[], ⟨none, 0, rfl, Nat.le_refl _, .inl rfl⟩, Nat.zero_le _⟩
  · injection e with e; subst e
    rw [cells_argFrac] at hx
    have hlm : len ≤ m := by rw [hmm]; split <;> omega
    have hex : ∀ i, i < len → ∃ f : Fr, w.cell? (a.add (i * 2)) = some (.int .i64 f.n) ∧ w.cell? ((a.add (i * 2)).add 1) = some (.int .i64 f.d) := fun i hi => by
      obtain ⟨cs', hc, ht⟩ := hx i (by omega)
      obtain ⟨p, q, rfl⟩ := trod_frac ht
      obtain ⟨_, _, hcc⟩ := World.cells?_some hc
      exact ⟨⟨p, q⟩, by simpa [Addr.add] using hcc 0 (by omega), hcc 1 (by omega)⟩
    haveI : Inhabited Fr := ⟨Fr.zero⟩
    obtain ⟨g, hg⟩ := Go.Deep.choose_lt hex
    refine ⟨(List.range len).map g, ⟨some a, cap, by simp, by simpa using hl, ?_⟩, by simp; omega⟩
    by_cases h0 : len = 0
    · left; subst h0; rfl
    · right
      obtain ⟨b, off, spot⟩ := a
      have hspot : spot = none := by simpa [Addr.add] using World.cell?_spot (hg 0 (by omega)).1
      subst hspot
      refine ⟨b, off, rfl, fun i f hf => ?_⟩
      have hi : i < len := by have := (List.getElem?_eq_some_iff.1 hf).1; simpa using this
      have he : g i = f := by simpa [hi] using hf
      subst he
      obtain ⟨h1, h2⟩ := hg i hi
      rw [Go.WideShapes.add_plain] at h1 h2
      rw [Go.WideShapes.add_plain] at h2
      exact ⟨h1, h2⟩

/-- a ledger that came in -/
theorem trod_ledger {n : Nat} {cs : List Value} {x : DataW H × List MemPlace} (h : DataW.trod enc Try.prog w base spare held n 26 cs = some x) :
    ∃ a b v fs, cs = [.int .i64 a, .int .i64 b, v] ∧ FracsAt w v fs ∧ fs.length ≤ maxLen := by
  obtain ⟨y0, y1, n', _, hl, h0, h1⟩ := trod_struct2 Try.underlying26 h
  rw [cells_argLedger] at hl
  obtain ⟨c0, c1, c2, rfl⟩ := list3 hl
  have k : Try.prog.cellsOf 24 = 1 := cells_fracs
  simp only [cells_argFrac, k, List.drop_zero, List.take_succ_cons, List.take_zero, List.drop_succ_cons, List.take_nil] at h0 h1
  obtain ⟨a, b, e⟩ := trod_frac h0
  obtain ⟨fs, hfs, hlen⟩ := trod_fracs h1
  injection e with e1 e2
  injection e2 with e2 e3
  subst e1 e2
  exact ⟨a, b, c2, fs, rfl, hfs, hlen⟩
end

set_option maxRecDepth 100000 in
theorem liftedPay (os : Os) (started : os.Started) (H : Type) (enc : TypeId × Value → H) :
    ReturnsInHanded {} Try.checked os 3 .any (Rows.fnExactLedgerPaySpec.pre6 enc Try.prog Try.f3 Rows.fnExactLedgerPayRow.domain false) (Rows.fnExactLedgerPaySpec.post enc Try.prog Try.f3 false true false false) := by
  refine returnsInHanded_of_change (C := Try.checked) ownNone started (by kernel_rfl) Try.func3
    (ChangeSpec.witness6 (enc := enc) (C := Try.checked) false ⟨#[], #[.agg #[.int .i64 0, .int .i64 0, .slice none 0 0], .agg #[.int .i64 0, .int .i64 0]], []⟩ 8 (by kernel_rfl) (by kernel_rfl) (by kernel_rfl) (by kernel_rfl)) ?_
  intro W base args ds gs before hval0 hW hcnd _
  have hval : ∀ (j : Nat) t v, Try.f3.params[j]? = some t → args[j]? = some v → Value.okWide Try.prog W .any base t v := hval0
  have hW' := hW
  obtain ⟨p, q, hA0, hV, rfl, hfz, hnd⟩ := hW
  have hA : DataW.TrodAll enc Try.prog W 0 (fun _ => true) true Try.f3.params.toList args.toList ds p := hA0
  rw [Try.params3] at hA hval
  obtain ⟨v0, v1, d0, d1, p0, p1, rfl, rfl, rfl, h0, h1⟩ := trodAll_two hA
  obtain ⟨rfl, rfl⟩ := trodVars_none hV
  obtain ⟨cs0, rfl, _⟩ := okWide_struct Try.underlying26 (hval 0 26 v0 rfl rfl)
  obtain ⟨cs1, rfl, _⟩ := okWide_struct Try.underlying23 (hval 1 23 v1 rfl rfl)
  have k0 := h0
  have k1 := h1
  obtain ⟨n0, j0⟩ := k0
  obtain ⟨n1, j1⟩ := k1
  obtain ⟨cn, cd, v, fs, e0, hI, hlen⟩ := trod_ledger j0
  obtain ⟨fn, fd, e1⟩ := trod_frac j1
  have c0 : Value.agg cs0 = .agg #[.int .i64 cn, .int .i64 cd, v] := by
    have : cs0.toList = [.int .i64 cn, .int .i64 cd, v] := e0
    congr 1
    exact Array.toList_inj.1 this
  have c1 : Value.agg cs1 = .agg #[.int .i64 fn, .int .i64 fd] := by
    have : cs1.toList = [.int .i64 fn, .int .i64 fd] := e1
    congr 1
    exact Array.toList_inj.1 this
  clear hA0 hval0
  have hlt0 : ∀ x ∈ p0, x.block < W.heap.size := fun x hx => hW'.lt x (by simp [hx])
  have hlt1 : ∀ x ∈ p1, x.block < W.heap.size := fun x hx => hW'.lt x (by simp [hx])
  have hwalk := lawPay_c cn cd v fs fn fd W hI hlen
  rw [← c0, ← c1] at hwalk
  refine hwalk.mono fun e W' ⟨he, hb⟩ => ?_
  subst he
  have a0 := Below.trod laidOut (by kernel_rfl) (of_decide_eq_true (by kernel_rfl)) h0 hb hlt0
  have a1 := Below.trod laidOut (by kernel_rfl) (of_decide_eq_true (by kernel_rfl)) h1 hb hlt1
  exact ⟨_, rfl, ⟨_, _, _, [], _, [], hW', trodAll_mk1 (shut_bool Try.underlying4 _), trodAll_mk2 a0 a1, rfl, hb.frame _, fun h => by cases h⟩⟩

theorem overPay : Rows.FnExactLedgerPaySaid :=
  OpenClaim.holds_of_wide 3 Try.f3 rfl rfl rfl rfl rfl rfl rfl ⟨rfl, rfl, rfl, rfl, rfl⟩ rfl rfl rfl rfl rfl (by kernel_rfl) Try.func3 (by kernel_rfl)
    (of_decide_eq_true (by kernel_rfl)) (by unfold Func.isWrapper; first | (rw [if_pos (by decide +kernel)]; kernel_rfl) | (rw [if_neg (by decide +kernel)]; exact ⟨rfl, rfl⟩))
    (fun os started H enc _ => liftedPay os started H enc)
#print axioms overPay

end Go.Proofs.Ytfebbpihcngjoaa
