/- Shares: what is one. -/
import Derived.Test.YtdjoodbidcncaaaGreatDoorMAxL
import Derived.Test.YtdjoodbidcncaaaGreatDoorMAxV
import Derived.Test.YtdjoodbidcncaaaGreatDoorMAxY
import Derived.Test.YtdjoodbidcncaaaGreatDoorMAxR
set_option linter.unusedVariables false
set_option linter.unusedSimpArgs false
namespace Go.Proofs.YtdjoodbidcncaaaGreatDoor.AW
open Go
set_option maxRecDepth 10000
abbrev okE (x : Int) : Prop := 0 ≤ x ∧ x ≤ 30
abbrev fnv (f : FuncId) : AV := .cv (.sc (.func (.func f) #[] #[]))
theorem FieldOk_s (n : Int) : Spec ctx 136 [iv .i64 n] [] (bv (decide (okE n))) [] := by
  refine spec_mk ctx_mixed ctx_enters 0 Tryz.func136 rfl rfl (Nat.le_of_ble_eq_true rfl) 0 rfl ?_; conv => whnf
  repeat' ((first | (with_reducible first | refine d_chk ?_ | refine Br.tt ?_ | refine Br.ff ?_ | refine Br.beq ?_ | refine Br.bne ?_ | refine Br.nt ?_ | refine Br.nf ?_ | refine d_wrap ?_ | refine d_rem ?_ | refine d_nat ?_ | refine d_get (by omega) ?_ | refine Br.yesd ?_ | refine Br.nod ?_ | refine Br.yesn ?_ | refine Br.nodn ?_ | refine d_le ?_ | refine d_lt ?_ | refine And.intro ?_ ?_ | exact trivial | exact .inr rfl | rfl | refine sc_int | refine sc_bt ?_ | refine sc_bf ?_ | refine sc_bb ?_ | refine sc_bh ?_ | refine sc_ih ?_) | refine callW0 (within_s _ _ _) rfl trivial ?_ | with_reducible refine Br.dec (fun _ => ?_) (fun _ => ?_) | with_reducible refine Br.decn (fun _ => ?_) (fun _ => ?_) | with_reducible refine d_left [] ?_ ?_ | exact rfl | exact Nat.le_of_ble_eq_true rfl | (refine Nat.le_of_eq ?_; simp [rows, seqI]; done) | refine call_go rfl rfl [] ?_ | (refine Hid.mk ?_; first | decide | omega | (simp <;> omega) | (intro e; subst e; omega) | (intro e; subst e; simp_all; done) | exact Prod.ext (by omega) (by omega))) <;> conv => whnf)
theorem elementsOk1_s (n : Int) : Spec ctx 184 [iv .i64 n] [] (bv (!decide (okE n))) [] := by
  refine spec_mk ctx_mixed ctx_enters 0 Tryz.func184 rfl rfl (Nat.le_of_ble_eq_true rfl) 0 rfl ?_; conv => whnf
  repeat' ((first | (with_reducible first | refine d_chk ?_ | refine Br.tt ?_ | refine Br.ff ?_ | refine Br.beq ?_ | refine Br.bne ?_ | refine Br.nt ?_ | refine Br.nf ?_ | refine d_wrap ?_ | refine d_rem ?_ | refine d_nat ?_ | refine d_get (by omega) ?_ | refine Br.yesd ?_ | refine Br.nod ?_ | refine Br.yesn ?_ | refine Br.nodn ?_ | refine d_le ?_ | refine d_lt ?_ | refine And.intro ?_ ?_ | exact trivial | exact .inr rfl | rfl | refine sc_int | refine sc_bt ?_ | refine sc_bf ?_ | refine sc_bb ?_ | refine sc_bh ?_ | refine sc_ih ?_) | refine callW0 (FieldOk_s _) rfl trivial ?_ | with_reducible refine Br.dec (fun _ => ?_) (fun _ => ?_) | with_reducible refine Br.decn (fun _ => ?_) (fun _ => ?_) | with_reducible refine d_left [] ?_ ?_ | exact rfl | exact Nat.le_of_ble_eq_true rfl | (refine Nat.le_of_eq ?_; simp [rows, seqI]; done) | refine call_go rfl rfl [] ?_ | (refine Hid.mk ?_; first | decide | omega | (simp <;> omega) | (intro e; subst e; omega) | (intro e; subst e; simp_all; done) | exact Prod.ext (by omega) (by omega))) <;> conv => whnf)
def idxBad (l : List Int) : Int := if ∀ x ∈ l, okE x then -1 else (l.findIdx (fun x => !decide (okE x)) : Int)
theorem idxBad_at {l : List Int} {i : Nat} (hi : i < l.length) (h : ∀ x ∈ l.take i, okE x) (hb : ¬ okE l[i]) : idxBad l = i := by
  have : ¬ ∀ x ∈ l, okE x := fun g => hb (g _ (List.getElem_mem hi))
  unfold idxBad
  rw [if_neg this]
  have : l.findIdx (fun x => !decide (okE x)) = i := by
    rw [List.findIdx_eq hi]
    refine ⟨by simp; omega, fun j hj => ?_⟩
    have := h l[j] (by rw [List.mem_take_iff_getElem]; exact ⟨j, by omega, rfl⟩)
    simpa using this
  rw [this]
theorem idxBad_none {l : List Int} (h : ∀ x ∈ l, okE x) : idxBad l = -1 := by unfold idxBad; rw [if_pos h]
theorem take_ok {l : List Int} {i : Nat} (hi : i < l.length) (h : ∀ x ∈ l.take i, okE x) (hb : okE l[i]) : ∀ x ∈ l.take (i + 1), okE x := by
  intro x hx
  rw [List.take_succ_eq_append_getElem hi] at hx
  rcases List.mem_append.1 hx with h1 | h1
  · exact h x h1
  · simp at h1; subst h1; exact hb
theorem IndexFunc_s (l : List Int) (hl : l.length ≤ 4611686018427387904) : Spec ctx 185 [sl l none, fnv 184] [] (iv .i64 (idxBad l)) [] := by
  have la := rows_len ci l
  refine spec_mk ctx_mixed ctx_enters 0 Tryz.func185 rfl rfl (Nat.le_of_ble_eq_true rfl) 0 rfl ?_; conv => whnf
  repeat' ((first | (with_reducible first | refine d_chk ?_ | refine Br.tt ?_ | refine Br.ff ?_ | refine Br.beq ?_ | refine Br.bne ?_ | refine Br.nt ?_ | refine Br.nf ?_ | refine d_wrap ?_ | refine d_rem ?_ | refine d_nat ?_ | refine d_get (by omega) ?_ | refine Br.yesd ?_ | refine Br.nod ?_ | refine Br.yesn ?_ | refine Br.nodn ?_ | refine d_le ?_ | refine d_lt ?_ | refine And.intro ?_ ?_ | exact trivial | exact .inr rfl | rfl | refine sc_int | refine sc_bt ?_ | refine sc_bf ?_ | refine sc_bb ?_ | refine sc_bh ?_ | refine sc_ih ?_) | with_reducible refine Br.dec (fun _ => ?_) (fun _ => ?_) | with_reducible refine Br.decn (fun _ => ?_) (fun _ => ?_) | with_reducible refine d_left [] ?_ ?_ | exact rfl | exact Nat.le_of_ble_eq_true rfl | (refine Nat.le_of_eq ?_; simp [rows, seqI]; done) | refine call_go rfl rfl [] ?_ | (refine Hid.mk ?_; first | decide | omega | (simp <;> omega) | (intro e; subst e; omega) | (intro e; subst e; simp_all; done) | exact Prod.ext (by omega) (by omega))) <;> conv => whnf)
  refine AW.loopP (fun i : Nat => ⟨[(0, sl l none), (1, fnv 184), (7, iv .i64 l.length), (8, iv .i64 i)], [], 0⟩) (fun i => i ≤ l.length ∧ ∀ x ∈ l.take i, okE x) (fun i => l.length - i) 0 [] (d_sub _ ?_ ?_) ⟨by simp, by simp⟩ (fun i ⟨hi, ht⟩ => ?_) <;> (conv => whnf) <;>
  repeat' ((first | (with_reducible first | refine d_chk ?_ | refine Br.tt ?_ | refine Br.ff ?_ | refine Br.beq ?_ | refine Br.bne ?_ | refine Br.nt ?_ | refine Br.nf ?_ | refine d_wrap ?_ | refine d_rem ?_ | refine d_nat ?_ | refine d_get (by omega) ?_ | refine Br.yesd ?_ | refine Br.nod ?_ | refine Br.yesn ?_ | refine Br.nodn ?_ | refine d_le ?_ | refine d_lt ?_ | refine And.intro ?_ ?_ | exact trivial | exact .inr rfl | rfl | refine sc_int | refine sc_bt ?_ | refine sc_bf ?_ | refine sc_bb ?_ | refine sc_bh ?_ | refine sc_ih ?_) | refine d_end (i+1) [] (d_sub _ ?_ ?_) ?_ | refine callW0 (elementsOk1_s l[i]) rfl trivial ?_ | with_reducible refine Br.dec (fun _ => ?_) (fun _ => ?_) | with_reducible refine Br.decn (fun _ => ?_) (fun _ => ?_) | with_reducible refine d_left [] ?_ ?_ | exact rfl | exact Nat.le_of_ble_eq_true rfl | (refine Nat.le_of_eq ?_; simp [rows, seqI]; done) | refine call_go rfl rfl [] ?_ | (refine Hid.mk ?_; first | decide | omega | (simp <;> omega) | (intro e; subst e; omega) | (intro e; subst e; simp_all; done) | exact Prod.ext (by omega) (by omega))) <;> conv => whnf)
  · exact ⟨(idxBad_at (by omega) ht ‹_›).symm⟩
  · exact ⟨by omega, take_ok (by omega) ht ‹_›⟩
  · exact ⟨(idxBad_none (by rwa [List.take_of_length_le (by omega)] at ht)).symm⟩
theorem ContainsFunc_s (l : List Int) (hl : l.length ≤ 4611686018427387904) : Spec ctx 131 [sl l none, fnv 184] [] (bv (decide (0 ≤ idxBad l))) [] := by
  refine spec_mk ctx_mixed ctx_enters 0 Tryz.func131 rfl rfl (Nat.le_of_ble_eq_true rfl) 0 rfl ?_; conv => whnf
  repeat' ((first | (with_reducible first | refine d_chk ?_ | refine Br.tt ?_ | refine Br.ff ?_ | refine Br.beq ?_ | refine Br.bne ?_ | refine Br.nt ?_ | refine Br.nf ?_ | refine d_wrap ?_ | refine d_rem ?_ | refine d_nat ?_ | refine d_get (by omega) ?_ | refine Br.yesd ?_ | refine Br.nod ?_ | refine Br.yesn ?_ | refine Br.nodn ?_ | refine d_le ?_ | refine d_lt ?_ | refine And.intro ?_ ?_ | exact trivial | exact .inr rfl | rfl | refine sc_int | refine sc_bt ?_ | refine sc_bf ?_ | refine sc_bb ?_ | refine sc_bh ?_ | refine sc_ih ?_) | refine callW0 (IndexFunc_s l hl) rfl trivial ?_ | with_reducible refine Br.dec (fun _ => ?_) (fun _ => ?_) | with_reducible refine Br.decn (fun _ => ?_) (fun _ => ?_) | with_reducible refine d_left [] ?_ ?_ | exact rfl | exact Nat.le_of_ble_eq_true rfl | (refine Nat.le_of_eq ?_; simp [rows, seqI]; done) | refine call_go rfl rfl [] ?_ | (refine Hid.mk ?_; first | decide | omega | (simp <;> omega) | (intro e; subst e; omega) | (intro e; subst e; simp_all; done) | exact Prod.ext (by omega) (by omega))) <;> conv => whnf)
theorem idxBad_iff (l : List Int) : 0 ≤ idxBad l ↔ ¬ ∀ x ∈ l, okE x := by
  unfold idxBad
  split
  · rename_i h; exact ⟨fun g => by omega, fun g => absurd h g⟩
  · rename_i h; exact ⟨fun _ => h, fun _ => by omega⟩
theorem elementsOk_s (l : List Int) (n : Int) (hl : l.length ≤ 4611686018427387904) : Spec ctx 130 [sl l none, iv .i64 n] [] (bv (decide ((l.length : Int) ≤ n ∧ ∀ x ∈ l, okE x))) [] := by
  have la := rows_len ci l
  have hb := idxBad_iff l
  refine spec_mk ctx_mixed ctx_enters 0 Tryz.func130 rfl rfl (Nat.le_of_ble_eq_true rfl) 0 rfl ?_; conv => whnf
  repeat' ((first | (with_reducible first | refine d_chk ?_ | refine Br.tt ?_ | refine Br.ff ?_ | refine Br.beq ?_ | refine Br.bne ?_ | refine Br.nt ?_ | refine Br.nf ?_ | refine d_wrap ?_ | refine d_rem ?_ | refine d_nat ?_ | refine d_get (by omega) ?_ | refine Br.yesd ?_ | refine Br.nod ?_ | refine Br.yesn ?_ | refine Br.nodn ?_ | refine d_le ?_ | refine d_lt ?_ | refine And.intro ?_ ?_ | exact trivial | exact .inr rfl | rfl | refine sc_int | refine sc_bt ?_ | refine sc_bf ?_ | refine sc_bb ?_ | refine sc_bh ?_ | refine sc_ih ?_) | refine callW0 (ContainsFunc_s l hl) rfl trivial ?_ | with_reducible refine Br.dec (fun _ => ?_) (fun _ => ?_) | with_reducible refine Br.decn (fun _ => ?_) (fun _ => ?_) | with_reducible refine d_left [] ?_ ?_ | exact rfl | exact Nat.le_of_ble_eq_true rfl | (refine Nat.le_of_eq ?_; simp [rows, seqI]; done) | refine call_go rfl rfl [] ?_ | (refine Hid.mk ?_; first | decide | omega | (simp <;> omega) | (intro e; subst e; omega) | (intro e; subst e; simp_all; done) | exact Prod.ext (by omega) (by omega))) <;> conv => whnf)
  rename_i h
  rw [la] at h
  refine ⟨?_⟩
  by_cases g : ∀ x ∈ l, okE x
  · rw [decide_eq_false (fun e => hb.1 e g : ¬ 0 ≤ idxBad l), decide_eq_true ⟨h, g⟩]; rfl
  · rw [decide_eq_true (hb.2 g), decide_eq_false (fun e => g e.2)]; rfl
theorem ShareOk_s (l : List Int) (hl : l.length ≤ 4611686018427387904) : Spec ctx 124 [sl l none] [] (bv (decide ((l.length : Int) ≤ 20 ∧ ∀ x ∈ l, okE x))) [] := by
  refine spec_mk ctx_mixed ctx_enters 0 Tryz.func124 rfl rfl (Nat.le_of_ble_eq_true rfl) 0 rfl ?_; conv => whnf
  repeat' ((first | (with_reducible first | refine d_chk ?_ | refine Br.tt ?_ | refine Br.ff ?_ | refine Br.beq ?_ | refine Br.bne ?_ | refine Br.nt ?_ | refine Br.nf ?_ | refine d_wrap ?_ | refine d_rem ?_ | refine d_nat ?_ | refine d_get (by omega) ?_ | refine Br.yesd ?_ | refine Br.nod ?_ | refine Br.yesn ?_ | refine Br.nodn ?_ | refine d_le ?_ | refine d_lt ?_ | refine And.intro ?_ ?_ | exact trivial | exact .inr rfl | rfl | refine sc_int | refine sc_bt ?_ | refine sc_bf ?_ | refine sc_bb ?_ | refine sc_bh ?_ | refine sc_ih ?_) | refine callW0 (elementsOk_s l 20 hl) rfl trivial ?_ | with_reducible refine Br.dec (fun _ => ?_) (fun _ => ?_) | with_reducible refine Br.decn (fun _ => ?_) (fun _ => ?_) | with_reducible refine d_left [] ?_ ?_ | exact rfl | exact Nat.le_of_ble_eq_true rfl | (refine Nat.le_of_eq ?_; simp [rows, seqI]; done) | refine call_go rfl rfl [] ?_ | (refine Hid.mk ?_; first | decide | omega | (simp <;> omega) | (intro e; subst e; omega) | (intro e; subst e; simp_all; done) | exact Prod.ext (by omega) (by omega))) <;> conv => whnf)
end Go.Proofs.YtdjoodbidcncaaaGreatDoor.AW

/- Fields, shares, proofs: small functions. -/
namespace Go.Proofs.YtdjoodbidcncaaaGreatDoor.AW
open Go
set_option maxRecDepth 10000
theorem sFieldOk_s (n : Int) : Spec ctx 123 [iv .i64 n] [] (bv (decide (okE n))) [] := by
  refine spec_mk ctx_mixed ctx_enters 0 Tryz.func123 rfl rfl (Nat.le_of_ble_eq_true rfl) 0 rfl ?_; conv => whnf
  repeat' ((first | (with_reducible first | refine d_chk ?_ | refine Br.tt ?_ | refine Br.ff ?_ | refine Br.beq ?_ | refine Br.bne ?_ | refine Br.nt ?_ | refine Br.nf ?_ | refine d_wrap ?_ | refine d_rem ?_ | refine d_nat ?_ | refine d_get (by omega) ?_ | refine Br.yesd ?_ | refine Br.nod ?_ | refine Br.yesn ?_ | refine Br.nodn ?_ | refine d_le ?_ | refine d_lt ?_ | refine And.intro ?_ ?_ | exact trivial | exact .inr rfl | rfl | refine sc_int | refine sc_bt ?_ | refine sc_bf ?_ | refine sc_bb ?_ | refine sc_bh ?_ | refine sc_ih ?_) | refine callW0 (l6In_s _ _ _) rfl trivial ?_ | with_reducible refine Br.dec (fun _ => ?_) (fun _ => ?_) | with_reducible refine Br.decn (fun _ => ?_) (fun _ => ?_) | with_reducible refine d_left [] ?_ ?_ | exact rfl | exact Nat.le_of_ble_eq_true rfl | (refine Nat.le_of_eq ?_; simp [rows, seqI]; done) | refine call_go rfl rfl [] ?_ | (refine Hid.mk ?_; first | decide | omega | (simp <;> omega) | (intro e; subst e; omega) | (intro e; subst e; simp_all; done) | exact Prod.ext (by omega) (by omega))) <;> conv => whnf)
theorem sFieldSum_s (a b : Int) : Spec ctx 161 [iv .i64 a, iv .i64 b] [] (iv .i64 (if okE a ∧ okE b then (a + b) % 31 else 0)) [] := by
  refine spec_mk ctx_mixed ctx_enters 0 Tryz.func161 rfl rfl (Nat.le_of_ble_eq_true rfl) 0 rfl ?_; conv => whnf
  repeat' ((first | (with_reducible first | refine d_chk ?_ | refine Br.tt ?_ | refine Br.ff ?_ | refine Br.beq ?_ | refine Br.bne ?_ | refine Br.nt ?_ | refine Br.nf ?_ | refine d_wrap ?_ | refine d_rem ?_ | refine d_nat ?_ | refine d_get (by omega) ?_ | refine Br.yesd ?_ | refine Br.nod ?_ | refine Br.yesn ?_ | refine Br.nodn ?_ | refine d_le ?_ | refine d_lt ?_ | refine And.intro ?_ ?_ | exact trivial | exact .inr rfl | rfl | refine sc_int | refine sc_bt ?_ | refine sc_bf ?_ | refine sc_bb ?_ | refine sc_bh ?_ | refine sc_ih ?_) | refine callW0 (sFieldOk_s _) rfl trivial ?_ | with_reducible refine Br.dec (fun _ => ?_) (fun _ => ?_) | with_reducible refine Br.decn (fun _ => ?_) (fun _ => ?_) | with_reducible refine d_left [] ?_ ?_ | exact rfl | exact Nat.le_of_ble_eq_true rfl | (refine Nat.le_of_eq ?_; simp [rows, seqI]; done) | refine call_go rfl rfl [] ?_ | (refine Hid.mk ?_; first | decide | omega | (simp <;> omega) | (intro e; subst e; omega) | (intro e; subst e; simp_all; done) | exact Prod.ext (by omega) (by omega))) <;> conv => whnf)
  · omega
  · rename_i h1 h2
    obtain ⟨p1, p2⟩ := h1
    obtain ⟨p3, p4⟩ := h2
    refine ⟨(a + b) % 31, Int.tmod_eq_emod_of_nonneg (by omega), ?_⟩
    conv => whnf
    repeat' ((first | (with_reducible first | refine d_chk ?_ | refine Br.tt ?_ | refine Br.ff ?_ | refine Br.beq ?_ | refine Br.bne ?_ | refine Br.nt ?_ | refine Br.nf ?_ | refine d_wrap ?_ | refine d_rem ?_ | refine d_nat ?_ | refine d_get (by omega) ?_ | refine Br.yesd ?_ | refine Br.nod ?_ | refine Br.yesn ?_ | refine Br.nodn ?_ | refine d_le ?_ | refine d_lt ?_ | refine And.intro ?_ ?_ | exact trivial | exact .inr rfl | rfl | refine sc_int | refine sc_bt ?_ | refine sc_bf ?_ | refine sc_bb ?_ | refine sc_bh ?_ | refine sc_ih ?_) | with_reducible refine Br.dec (fun _ => ?_) (fun _ => ?_) | with_reducible refine Br.decn (fun _ => ?_) (fun _ => ?_) | with_reducible refine d_left [] ?_ ?_ | exact rfl | exact Nat.le_of_ble_eq_true rfl | (refine Nat.le_of_eq ?_; simp [rows, seqI]; done) | refine call_go rfl rfl [] ?_ | (refine Hid.mk ?_; first | decide | omega | (simp <;> omega) | (intro e; subst e; omega) | (intro e; subst e; simp_all; done) | exact Prod.ext (by omega) (by omega))) <;> conv => whnf)
theorem sShareOk_s (l : List Int) (hl : l.length ≤ 4611686018427387904) : Spec ctx 69 [sl l none] [] (bv (decide ((l.length : Int) ≤ 20 ∧ ∀ x ∈ l, okE x))) [] := by
  have la := rows_len ci l
  refine spec_mk ctx_mixed ctx_enters 0 Tryz.func69 rfl rfl (Nat.le_of_ble_eq_true rfl) 0 rfl ?_; conv => whnf
  repeat' ((first | (with_reducible first | refine d_chk ?_ | refine Br.tt ?_ | refine Br.ff ?_ | refine Br.beq ?_ | refine Br.bne ?_ | refine Br.nt ?_ | refine Br.nf ?_ | refine d_wrap ?_ | refine d_rem ?_ | refine d_nat ?_ | refine d_get (by omega) ?_ | refine Br.yesd ?_ | refine Br.nod ?_ | refine Br.yesn ?_ | refine Br.nodn ?_ | refine d_le ?_ | refine d_lt ?_ | refine And.intro ?_ ?_ | exact trivial | exact .inr rfl | rfl | refine sc_int | refine sc_bt ?_ | refine sc_bf ?_ | refine sc_bb ?_ | refine sc_bh ?_ | refine sc_ih ?_) | with_reducible refine Br.dec (fun _ => ?_) (fun _ => ?_) | with_reducible refine Br.decn (fun _ => ?_) (fun _ => ?_) | with_reducible refine d_left [] ?_ ?_ | exact rfl | exact Nat.le_of_ble_eq_true rfl | (refine Nat.le_of_eq ?_; simp [rows, seqI]; done) | refine call_go rfl rfl [] ?_ | (refine Hid.mk ?_; first | decide | omega | (simp <;> omega) | (intro e; subst e; omega) | (intro e; subst e; simp_all; done) | exact Prod.ext (by omega) (by omega))) <;> conv => whnf)
  refine AW.loopP (fun i : Nat => ⟨[(0, sl l none), (3, iv .i64 i)], [], 0⟩) (fun i => i ≤ l.length ∧ ∀ x ∈ l.take i, okE x) (fun i => l.length - i) 0 [] (d_sub _ ?_ ?_) ⟨by simp, by simp⟩ (fun i ⟨hi, ht⟩ => ?_) <;> (conv => whnf) <;>
  repeat' ((first | (with_reducible first | refine d_chk ?_ | refine Br.tt ?_ | refine Br.ff ?_ | refine Br.beq ?_ | refine Br.bne ?_ | refine Br.nt ?_ | refine Br.nf ?_ | refine d_wrap ?_ | refine d_rem ?_ | refine d_nat ?_ | refine d_get (by omega) ?_ | refine Br.yesd ?_ | refine Br.nod ?_ | refine Br.yesn ?_ | refine Br.nodn ?_ | refine d_le ?_ | refine d_lt ?_ | refine And.intro ?_ ?_ | exact trivial | exact .inr rfl | rfl | refine sc_int | refine sc_bt ?_ | refine sc_bf ?_ | refine sc_bb ?_ | refine sc_bh ?_ | refine sc_ih ?_) | refine d_end (i+1) [] (d_sub _ ?_ ?_) ?_ | refine callW0 (sFieldOk_s l[i]) rfl trivial ?_ | with_reducible refine Br.dec (fun _ => ?_) (fun _ => ?_) | with_reducible refine Br.decn (fun _ => ?_) (fun _ => ?_) | with_reducible refine d_left [] ?_ ?_ | exact rfl | exact Nat.le_of_ble_eq_true rfl | (refine Nat.le_of_eq ?_; simp [rows, seqI]; done) | refine call_go rfl rfl [] ?_ | (refine Hid.mk ?_; first | decide | omega | (simp <;> omega) | (intro e; subst e; omega) | (intro e; subst e; simp_all; done) | exact Prod.ext (by omega) (by omega))) <;> conv => whnf)
  · rename_i h1
    exact ⟨fun g => h1 (g.2 _ (List.getElem_mem _))⟩
  · exact ⟨by omega, take_ok (by omega) ht ‹_›⟩
  · rename_i h1
    rw [List.take_of_length_le (by omega)] at ht
    exact ⟨by rw [la]; exact ⟨fun g => ⟨g, ht⟩, fun g => g.1⟩⟩
theorem iProofLen_s (n : Int) : Spec ctx 79 [iv .i64 n] [] (iv .i64 (if 1 ≤ n ∧ n ≤ 3 then 3 * lenOf n + 3 else 0)) [] := by
  have hL : 0 ≤ lenOf n ∧ lenOf n ≤ 4 := by unfold lenOf; omega
  by_cases h : 1 ≤ n ∧ n ≤ 3
  · rw [if_pos h]
    have hk := kindOk_s n
    rw [decide_eq_true h] at hk
    refine spec_mk ctx_mixed ctx_enters 0 Tryz.func79 rfl rfl (Nat.le_of_ble_eq_true rfl) 0 rfl ?_; conv => whnf
    repeat' ((first | (with_reducible first | refine d_chk ?_ | refine Br.tt ?_ | refine Br.ff ?_ | refine Br.beq ?_ | refine Br.bne ?_ | refine Br.nt ?_ | refine Br.nf ?_ | refine d_wrap ?_ | refine d_rem ?_ | refine d_nat ?_ | refine d_get (by omega) ?_ | refine Br.yesd ?_ | refine Br.nod ?_ | refine Br.yesn ?_ | refine Br.nodn ?_ | refine d_le ?_ | refine d_lt ?_ | refine And.intro ?_ ?_ | exact trivial | exact .inr rfl | rfl | refine sc_int | refine sc_bt ?_ | refine sc_bf ?_ | refine sc_bb ?_ | refine sc_bh ?_ | refine sc_ih ?_) | refine callW0 hk rfl trivial ?_ | refine callW0 (iTypeLen_s n h) rfl trivial ?_ | with_reducible refine Br.dec (fun _ => ?_) (fun _ => ?_) | with_reducible refine Br.decn (fun _ => ?_) (fun _ => ?_) | with_reducible refine d_left [] ?_ ?_ | exact rfl | exact Nat.le_of_ble_eq_true rfl | (refine Nat.le_of_eq ?_; simp [rows, seqI]; done) | refine call_go rfl rfl [] ?_ | (refine Hid.mk ?_; first | decide | omega | (simp <;> omega) | (intro e; subst e; omega) | (intro e; subst e; simp_all; done) | exact Prod.ext (by omega) (by omega))) <;> conv => whnf)
  · rw [if_neg h]
    have hk := kindOk_s n
    rw [decide_eq_false h] at hk
    refine spec_mk ctx_mixed ctx_enters 0 Tryz.func79 rfl rfl (Nat.le_of_ble_eq_true rfl) 0 rfl ?_; conv => whnf
    repeat' ((first | (with_reducible first | refine d_chk ?_ | refine Br.tt ?_ | refine Br.ff ?_ | refine Br.beq ?_ | refine Br.bne ?_ | refine Br.nt ?_ | refine Br.nf ?_ | refine d_wrap ?_ | refine d_rem ?_ | refine d_nat ?_ | refine d_get (by omega) ?_ | refine Br.yesd ?_ | refine Br.nod ?_ | refine Br.yesn ?_ | refine Br.nodn ?_ | refine d_le ?_ | refine d_lt ?_ | refine And.intro ?_ ?_ | exact trivial | exact .inr rfl | rfl | refine sc_int | refine sc_bt ?_ | refine sc_bf ?_ | refine sc_bb ?_ | refine sc_bh ?_ | refine sc_ih ?_) | refine callW0 hk rfl trivial ?_ | with_reducible refine Br.dec (fun _ => ?_) (fun _ => ?_) | with_reducible refine Br.decn (fun _ => ?_) (fun _ => ?_) | with_reducible refine d_left [] ?_ ?_ | exact rfl | exact Nat.le_of_ble_eq_true rfl | (refine Nat.le_of_eq ?_; simp [rows, seqI]; done) | refine call_go rfl rfl [] ?_ | (refine Hid.mk ?_; first | decide | omega | (simp <;> omega) | (intro e; subst e; omega) | (intro e; subst e; simp_all; done) | exact Prod.ext (by omega) (by omega))) <;> conv => whnf)
theorem sProofLen_s (n : Int) : Spec ctx 70 [iv .i64 n] [] (iv .i64 (if 1 ≤ n ∧ n ≤ 3 then 3 * lenOf n + 3 else 0)) [] := by
  have hL : 0 ≤ lenOf n ∧ lenOf n ≤ 4 := by unfold lenOf; omega
  by_cases h : 1 ≤ n ∧ n ≤ 3
  · rw [if_pos h]
    have hk := l11Kind_s n
    rw [decide_eq_true h] at hk
    refine spec_mk ctx_mixed ctx_enters 0 Tryz.func70 rfl rfl (Nat.le_of_ble_eq_true rfl) 0 rfl ?_; conv => whnf
    repeat' ((first | (with_reducible first | refine d_chk ?_ | refine Br.tt ?_ | refine Br.ff ?_ | refine Br.beq ?_ | refine Br.bne ?_ | refine Br.nt ?_ | refine Br.nf ?_ | refine d_wrap ?_ | refine d_rem ?_ | refine d_nat ?_ | refine d_get (by omega) ?_ | refine Br.yesd ?_ | refine Br.nod ?_ | refine Br.yesn ?_ | refine Br.nodn ?_ | refine d_le ?_ | refine d_lt ?_ | refine And.intro ?_ ?_ | exact trivial | exact .inr rfl | rfl | refine sc_int | refine sc_bt ?_ | refine sc_bf ?_ | refine sc_bb ?_ | refine sc_bh ?_ | refine sc_ih ?_) | refine callW0 hk rfl trivial ?_ | refine callW0 (TypeLen_s n) rfl trivial ?_ | with_reducible refine Br.dec (fun _ => ?_) (fun _ => ?_) | with_reducible refine Br.decn (fun _ => ?_) (fun _ => ?_) | with_reducible refine d_left [] ?_ ?_ | exact rfl | exact Nat.le_of_ble_eq_true rfl | (refine Nat.le_of_eq ?_; simp [rows, seqI]; done) | refine call_go rfl rfl [] ?_ | (refine Hid.mk ?_; first | decide | omega | (simp <;> omega) | (intro e; subst e; omega) | (intro e; subst e; simp_all; done) | exact Prod.ext (by omega) (by omega))) <;> conv => whnf)
  · rw [if_neg h]
    have hk := l11Kind_s n
    rw [decide_eq_false h] at hk
    refine spec_mk ctx_mixed ctx_enters 0 Tryz.func70 rfl rfl (Nat.le_of_ble_eq_true rfl) 0 rfl ?_; conv => whnf
    repeat' ((first | (with_reducible first | refine d_chk ?_ | refine Br.tt ?_ | refine Br.ff ?_ | refine Br.beq ?_ | refine Br.bne ?_ | refine Br.nt ?_ | refine Br.nf ?_ | refine d_wrap ?_ | refine d_rem ?_ | refine d_nat ?_ | refine d_get (by omega) ?_ | refine Br.yesd ?_ | refine Br.nod ?_ | refine Br.yesn ?_ | refine Br.nodn ?_ | refine d_le ?_ | refine d_lt ?_ | refine And.intro ?_ ?_ | exact trivial | exact .inr rfl | rfl | refine sc_int | refine sc_bt ?_ | refine sc_bf ?_ | refine sc_bb ?_ | refine sc_bh ?_ | refine sc_ih ?_) | refine callW0 hk rfl trivial ?_ | with_reducible refine Br.dec (fun _ => ?_) (fun _ => ?_) | with_reducible refine Br.decn (fun _ => ?_) (fun _ => ?_) | with_reducible refine d_left [] ?_ ?_ | exact rfl | exact Nat.le_of_ble_eq_true rfl | (refine Nat.le_of_eq ?_; simp [rows, seqI]; done) | refine call_go rfl rfl [] ?_ | (refine Hid.mk ?_; first | decide | omega | (simp <;> omega) | (intro e; subst e; omega) | (intro e; subst e; simp_all; done) | exact Prod.ext (by omega) (by omega))) <;> conv => whnf)
theorem idOk_s (n : Int) : Spec ctx 133 [iv .i64 n] [] (bv (decide (1 ≤ n ∧ n ≤ 99))) [] := by
  refine spec_mk ctx_mixed ctx_enters 0 Tryz.func133 rfl rfl (Nat.le_of_ble_eq_true rfl) 0 rfl ?_; conv => whnf
  repeat' ((first | (with_reducible first | refine d_chk ?_ | refine Br.tt ?_ | refine Br.ff ?_ | refine Br.beq ?_ | refine Br.bne ?_ | refine Br.nt ?_ | refine Br.nf ?_ | refine d_wrap ?_ | refine d_rem ?_ | refine d_nat ?_ | refine d_get (by omega) ?_ | refine Br.yesd ?_ | refine Br.nod ?_ | refine Br.yesn ?_ | refine Br.nodn ?_ | refine d_le ?_ | refine d_lt ?_ | refine And.intro ?_ ?_ | exact trivial | exact .inr rfl | rfl | refine sc_int | refine sc_bt ?_ | refine sc_bf ?_ | refine sc_bb ?_ | refine sc_bh ?_ | refine sc_ih ?_) | refine callW0 (within_s _ _ _) rfl trivial ?_ | with_reducible refine Br.dec (fun _ => ?_) (fun _ => ?_) | with_reducible refine Br.decn (fun _ => ?_) (fun _ => ?_) | with_reducible refine d_left [] ?_ ?_ | exact rfl | exact Nat.le_of_ble_eq_true rfl | (refine Nat.le_of_eq ?_; simp [rows, seqI]; done) | refine call_go rfl rfl [] ?_ | (refine Hid.mk ?_; first | decide | omega | (simp <;> omega) | (intro e; subst e; omega) | (intro e; subst e; simp_all; done) | exact Prod.ext (by omega) (by omega))) <;> conv => whnf)
theorem sized_s (k m : Int) (l : List Int) (hl : l.length ≤ 4611686018427387904) : Spec ctx 76 [iv .i64 k, sl l none, iv .i64 m] [] (bv (decide ((1 ≤ k ∧ k ≤ 3) ∧ (l.length : Int) = m ∧ (l.length : Int) ≤ 20 ∧ ∀ x ∈ l, okE x))) [] := by
  have la := rows_len ci l
  refine spec_mk ctx_mixed ctx_enters 0 Tryz.func76 rfl rfl (Nat.le_of_ble_eq_true rfl) 0 rfl ?_; conv => whnf
  repeat' ((first | (with_reducible first | refine d_chk ?_ | refine Br.tt ?_ | refine Br.ff ?_ | refine Br.beq ?_ | refine Br.bne ?_ | refine Br.nt ?_ | refine Br.nf ?_ | refine d_wrap ?_ | refine d_rem ?_ | refine d_nat ?_ | refine d_get (by omega) ?_ | refine Br.yesd ?_ | refine Br.nod ?_ | refine Br.yesn ?_ | refine Br.nodn ?_ | refine d_le ?_ | refine d_lt ?_ | refine And.intro ?_ ?_ | exact trivial | exact .inr rfl | rfl | refine sc_int | refine sc_bt ?_ | refine sc_bf ?_ | refine sc_bb ?_ | refine sc_bh ?_ | refine sc_ih ?_) | refine callW0 (kindOk_s _) rfl trivial ?_ | refine callW0 (elementsOk_s l 20 hl) rfl trivial ?_ | with_reducible refine Br.dec (fun _ => ?_) (fun _ => ?_) | with_reducible refine Br.decn (fun _ => ?_) (fun _ => ?_) | with_reducible refine d_left [] ?_ ?_ | exact rfl | exact Nat.le_of_ble_eq_true rfl | (refine Nat.le_of_eq ?_; simp [rows, seqI]; done) | refine call_go rfl rfl [] ?_ | (refine Hid.mk ?_; first | decide | omega | (simp <;> omega) | (intro e; subst e; omega) | (intro e; subst e; simp_all; done) | exact Prod.ext (by omega) (by omega))) <;> conv => whnf)
  rename_i h1 h2
  rw [la] at h2
  exact ⟨⟨fun g => ⟨h1, h2, g⟩, fun g => g.2.2⟩⟩
end Go.Proofs.YtdjoodbidcncaaaGreatDoor.AW

/- Collectors: small functions. -/
namespace Go.Proofs.YtdjoodbidcncaaaGreatDoor.AW
open Go
set_option maxRecDepth 10000
theorem Br.gen {q : Bool} {A B : Prop} (a : q = true → A) (b : q = false → B) : Br q A B := ⟨a, b⟩
/-! lists that are copied -/
theorem callWn {C : Ctx} {H : Nat → Option Block} {f : FuncId} {ys : List AV} {ns : List Nat} {nx : Nat} {K : Eff → Prop} {res : AV} {Hout : List (Nat × Option Block)} (S : Spec C f ys [] res Hout) (m : Nat) (hc : nmL 0 ys = true) (hn : NoR res ∧ NoRH Hout)
    (h : ck (nmA m res && nmH m Hout) <| K ⟨renA (mu [] 0 nx) res, wrs [] ns 0 nx m false Hout, List.range' nx m, ns⟩) : CallW C f [] ys ns H nx K := by
  obtain ⟨h1, h2⟩ := ck_out h
  refine callW S m false (LeL.self hc) ?_
  simp only [vPass, List.length_nil, Nat.zero_add, List.append_nil, List.nil_append]
  refine ck_in ⟨by simpa using h1, .inr hn, ?_⟩
  simpa using h2
theorem callWln {C : Ctx} {H : Nat → Option Block} {f : FuncId} {ys : List AV} {ns : List Nat} {nx : Nat} {K : Eff → Prop} {args' : List AV} {res : AV} {Hout : List (Nat × Option Block)} (S : Spec C f args' [] res Hout) (m : Nat) (hn : NoR res ∧ NoRH Hout) (hle : LeL (fun i => ([] : List Nat)[i]?) args' ys)
    (h : ck (nmA m res && nmH m Hout) <| K ⟨renA (mu [] 0 nx) res, wrs [] ns 0 nx m false Hout, List.range' nx m, ns⟩) : CallW C f [] ys ns H nx K := by
  obtain ⟨h1, h2⟩ := ck_out h
  refine callW S m false hle ?_
  simp only [vPass, List.length_nil, Nat.zero_add, List.append_nil, List.nil_append]
  refine ck_in ⟨by simpa using h1, .inr hn, ?_⟩
  simpa using h2
theorem rows_sc (l : List Int) : ∀ e ∈ rows ci l, ∀ c ∈ e, IsSc c := by
  intro e he c hc
  simp only [rows, List.mem_map] at he
  obtain ⟨x, _, rfl⟩ := he
  simp at hc; subst hc; trivial
/-- nothing at all may be told as an empty row -/
theorem spec_nil_own {f : FuncId} {args : List AV} {cap : Option Nat} (hcap : ∀ x, cap = some x → x = 0) (S : Spec ctx f args [] nilS []) : Spec ctx f args [] (.own 0 1 0 0 cap) [(0, some (.row 1 []))] := by
  refine ⟨S.bod, fun E w x vs h1 h2 h3 h4 h5 => ctx.sound.callsMono (S.run E w x vs h1 h2 h3 h4 h5) fun v w' x' ⟨E', r1, r2, r3, r4, r5⟩ => ?_⟩
  let E2 : Emb := { E' with U := fun b => b = 0, gh := fun _ => True }
  have hx : Ext (fun _ => False) E' w' E2 w' := ⟨fun _ _ => rfl, fun _ h => h, fun _ h => h, Nat.le_refl _, fun _ h => h.elim, fun b _ hg => absurd trivial hg, fun _ h => .inl h, ⟨rfl, rfl, rfl⟩⟩
  refine ⟨E2, ?_, ⟨fun b B hb => ?_, fun b B hb => ⟨?_, fun hg => absurd trivial hg⟩, fun b b' B B' _ _ hg => absurd trivial hg, r2.prfr, r2.frlt⟩, r3.trans' hx fun b hb => absurd hb (by simp), ctx.sound.okExt r4 hx, r5⟩
  · rw [rep_sc r1]
    exact .own0 0 1 0 cap none rfl trivial hcap
  · cases b with
    | zero =>
      simp only [geth, Nat.beq_refl, Option.some.injEq] at hb
      subst hb
      exact .inl ⟨trivial, rfl⟩
    | succ b => have hb : (none : Option Block) = some B := hb; cases hb
  · cases b with
    | zero => rfl
    | succ b => have hb : (none : Option Block) = some B := hb; cases hb
theorem Clone_s (l : List Int) (hl : l.length ≤ 1100000) : Spec ctx 122 [sl l none] [] (.own 0 1 0 l.length none) [(0, some (.row 1 (rows ci l)))] := by
  have hu : ctx.P.underlying 23 = some (.slice 3) := Tryz.underlying23
  match l, hl with
  | [], _ =>
    have S : ∀ a c, Spec ctx 122 [.cv (.sc (.slice a 0 c))] [] (.own 0 1 0 0 none) [(0, some (.row 1 []))] := fun a c => by
      cases a with
      | none =>
        refine spec_nil_own (fun _ h => by cases h) ?_
        refine spec_mk ctx_mixed ctx_enters 0 Tryz.func122 rfl rfl (Nat.le_of_ble_eq_true rfl) 0 rfl ?_; conv => whnf
        repeat' ((first | (with_reducible first | refine d_chk ?_ | refine Br.tt ?_ | refine Br.ff ?_ | refine Br.beq ?_ | refine Br.bne ?_ | refine Br.nt ?_ | refine Br.nf ?_ | refine d_wrap ?_ | refine d_rem ?_ | refine d_nat ?_ | refine d_get (by omega) ?_ | refine Br.yesd ?_ | refine Br.nod ?_ | refine Br.yesn ?_ | refine Br.nodn ?_ | refine d_le ?_ | refine d_lt ?_ | refine And.intro ?_ ?_ | exact trivial | exact .inr rfl | rfl | refine sc_int | refine sc_bt ?_ | refine sc_bf ?_ | refine sc_bb ?_ | refine sc_bh ?_ | refine sc_ih ?_) | refine slice_nil (q := true) rfl hu rfl ?_ | with_reducible refine Br.dec (fun _ => ?_) (fun _ => ?_) | with_reducible refine Br.decn (fun _ => ?_) (fun _ => ?_) | with_reducible refine d_left [] ?_ ?_ | exact rfl | exact Nat.le_of_ble_eq_true rfl | (refine Nat.le_of_eq ?_; simp [rows, seqI]; done) | refine call_go rfl rfl [] ?_ | (refine Hid.mk ?_; first | decide | omega | (simp <;> omega) | (intro e; subst e; omega) | (intro e; subst e; simp_all; done) | exact Prod.ext (by omega) (by omega))) <;> conv => whnf)
      | some a =>
        refine spec_mk ctx_mixed ctx_enters 5 Tryz.func122 rfl rfl (Nat.le_of_ble_eq_true rfl) 0 rfl ?_; conv => whnf
        repeat' ((first | (with_reducible first | refine d_chk ?_ | refine Br.tt ?_ | refine Br.ff ?_ | refine Br.beq ?_ | refine Br.bne ?_ | refine Br.nt ?_ | refine Br.nf ?_ | refine d_wrap ?_ | refine d_rem ?_ | refine d_nat ?_ | refine d_get (by omega) ?_ | refine Br.yesd ?_ | refine Br.nod ?_ | refine Br.yesn ?_ | refine Br.nodn ?_ | refine d_le ?_ | refine d_lt ?_ | refine And.intro ?_ ?_ | exact trivial | exact .inr rfl | rfl | refine sc_int | refine sc_bt ?_ | refine sc_bf ?_ | refine sc_bb ?_ | refine sc_bh ?_ | refine sc_ih ?_) | refine slice_nil (q := false) rfl hu rfl ?_ | with_reducible refine d_left [(0, 1)] ?_ ?_ | with_reducible refine Br.dec (fun _ => ?_) (fun _ => ?_) | with_reducible refine Br.decn (fun _ => ?_) (fun _ => ?_) | with_reducible refine d_left [] ?_ ?_ | exact rfl | exact Nat.le_of_ble_eq_true rfl | (refine Nat.le_of_eq ?_; simp [rows, seqI]; done) | refine call_go rfl rfl [] ?_ | (refine Hid.mk ?_; first | decide | omega | (simp <;> omega) | (intro e; subst e; omega) | (intro e; subst e; simp_all; done) | exact Prod.ext (by omega) (by omega))) <;> conv => whnf)
    refine ⟨(S none 0).bod, fun E w x vs h1 h2 h3 h4 h5 => ?_⟩
    have h2' := h2 0 _ rfl
    obtain ⟨a, n, c, vs', e1, e2, _⟩ := rep_ro h2'
    have hn : n = 0 := by rw [e2]; rfl
    subst hn
    refine (S a c).run E w x vs h1 (fun k y hy => ?_) h3 h4 h5
    cases k with
    | zero =>
      simp only [List.getElem?_cons_zero, Option.some.injEq] at hy
      subst hy
      rw [e1]
      exact .cv _ _ (.sc _ rfl)
    | succ k => simp at hy
  | z :: l, hl =>
    have la := rows_len ci (z :: l)
    refine spec_mk ctx_mixed ctx_enters 5 Tryz.func122 rfl rfl (Nat.le_of_ble_eq_true rfl) 0 rfl ?_; conv => whnf
    repeat' ((first | (with_reducible first | refine d_chk ?_ | refine Br.tt ?_ | refine Br.ff ?_ | refine Br.beq ?_ | refine Br.bne ?_ | refine Br.nt ?_ | refine Br.nf ?_ | refine d_wrap ?_ | refine d_rem ?_ | refine d_nat ?_ | refine d_get (by omega) ?_ | refine Br.yesd ?_ | refine Br.nod ?_ | refine Br.yesn ?_ | refine Br.nodn ?_ | refine d_le ?_ | refine d_lt ?_ | refine And.intro ?_ ?_ | exact trivial | exact .inr rfl | rfl | refine sc_int | refine sc_bt ?_ | refine sc_bf ?_ | refine sc_bb ?_ | refine sc_bh ?_ | refine sc_ih ?_) | refine slice_nil (q := false) rfl hu rfl ?_ | with_reducible refine d_left [(0, 1)] ?_ ?_ | with_reducible refine Br.dec (fun _ => ?_) (fun _ => ?_) | with_reducible refine Br.decn (fun _ => ?_) (fun _ => ?_) | with_reducible refine d_left [] ?_ ?_ | exact rfl | exact Nat.le_of_ble_eq_true rfl | (refine Nat.le_of_eq ?_; simp [rows, seqI]; done) | refine call_go rfl rfl [] ?_ | (refine Hid.mk ?_; first | decide | omega | (simp <;> omega) | (intro e; subst e; omega) | (intro e; subst e; simp_all; done) | exact Prod.ext (by omega) (by omega))) <;> conv => whnf)
    · show (2 * (0 + (rows ci (z :: l)).length) + 768) * 8 ≤ 281474976710656
      rw [la]; omega
    · rw [la]; omega
theorem Clip_s (n : Nat) (l : List Int) (hl : l.length = n) (hn : n ≤ 1100000) : Spec ctx 64 [.own 0 1 0 n none] [.row 1 (rows ci l)] (.own 0 1 0 n (some n)) [(0, some (.row 1 (rows ci l)))] := by
  have la := rows_len ci l
  refine spec_mk ctx_mixed ctx_enters 1 Tryz.func64 rfl rfl (Nat.le_of_ble_eq_true rfl) 1 rfl ?_; conv => whnf
  repeat' ((first | (with_reducible first | refine d_chk ?_ | refine Br.tt ?_ | refine Br.ff ?_ | refine Br.beq ?_ | refine Br.bne ?_ | refine Br.nt ?_ | refine Br.nf ?_ | refine d_wrap ?_ | refine d_rem ?_ | refine d_nat ?_ | refine d_get (by omega) ?_ | refine Br.yesd ?_ | refine Br.nod ?_ | refine Br.yesn ?_ | refine Br.nodn ?_ | refine d_le ?_ | refine d_lt ?_ | refine And.intro ?_ ?_ | exact trivial | exact .inr rfl | rfl | refine sc_int | refine sc_bt ?_ | refine sc_bf ?_ | refine sc_bb ?_ | refine sc_bh ?_ | refine sc_ih ?_) | with_reducible refine d_left [(0, 0)] ?_ ?_ | exact fun _ => ⟨Nat.le_refl _, Nat.le_refl _⟩ | refine Or.inl (And.intro rfl ?_) | with_reducible refine Br.dec (fun _ => ?_) (fun _ => ?_) | with_reducible refine Br.decn (fun _ => ?_) (fun _ => ?_) | with_reducible refine d_left [] ?_ ?_ | exact rfl | exact Nat.le_of_ble_eq_true rfl | (refine Nat.le_of_eq ?_; simp [rows, seqI]; done) | refine call_go rfl rfl [] ?_ | (refine Hid.mk ?_; first | decide | omega | (simp <;> omega) | (intro e; subst e; omega) | (intro e; subst e; simp_all; done) | exact Prod.ext (by omega) (by omega))) <;> conv => whnf)
theorem copied_s (c : Co) (h1 : c.sum.length ≤ 1100000) (h2 : c.ids.length ≤ 1100000) : Spec ctx 63 [.agg (coL c)] [] (.agg [iv .i64 c.side, iv .i64 c.kind, .own 0 1 0 c.sum.length none, .own 1 1 0 c.ids.length none]) [(0, some (.row 1 (rows ci c.sum))), (1, some (.row 1 (rows ci c.ids)))] := by
  have la := rows_len ci c.sum
  have lb := rows_len ci c.ids
  refine spec_mk ctx_mixed ctx_enters 9 Tryz.func63 rfl rfl (Nat.le_of_ble_eq_true rfl) 0 rfl ?_; conv => whnf
  repeat' ((first | (with_reducible first | refine d_chk ?_ | refine Br.tt ?_ | refine Br.ff ?_ | refine Br.beq ?_ | refine Br.bne ?_ | refine Br.nt ?_ | refine Br.nf ?_ | refine d_wrap ?_ | refine d_rem ?_ | refine d_nat ?_ | refine d_get (by omega) ?_ | refine Br.yesd ?_ | refine Br.nod ?_ | refine Br.yesn ?_ | refine Br.nodn ?_ | refine d_le ?_ | refine d_lt ?_ | refine And.intro ?_ ?_ | exact trivial | exact .inr rfl | rfl | refine sc_int | refine sc_bt ?_ | refine sc_bf ?_ | refine sc_bb ?_ | refine sc_bh ?_ | refine sc_ih ?_) | refine callWn (Clone_s c.sum h1) 1 rfl ⟨trivial, rows_sc _, trivial⟩ ?_ | refine callWn (Clone_s c.ids h2) 1 rfl ⟨trivial, rows_sc _, trivial⟩ ?_ | (refine call_go (f := 64) rfl rfl [2] ?_; (conv => whnf); refine callWp (Clip_s _ _ rfl h1) ?_ ?_; focus ((repeat' (first | exact trivial | exact rfl | exact .inr rfl | exact .inl rfl | refine And.intro ?_ ?_)); done)) | (refine call_go (f := 64) rfl rfl [3] ?_; (conv => whnf); refine callWp (Clip_s _ _ rfl h2) ?_ ?_; focus ((repeat' (first | exact trivial | exact rfl | exact .inr rfl | exact .inl rfl | refine And.intro ?_ ?_)); done)) | with_reducible refine d_left [(0, 2), (1, 3)] ?_ ?_ | with_reducible refine Br.dec (fun _ => ?_) (fun _ => ?_) | with_reducible refine Br.decn (fun _ => ?_) (fun _ => ?_) | with_reducible refine d_left [] ?_ ?_ | exact rfl | exact Nat.le_of_ble_eq_true rfl | (refine Nat.le_of_eq ?_; simp [rows, seqI]; done) | refine call_go rfl rfl [] ?_ | (refine Hid.mk ?_; first | decide | omega | (simp <;> omega) | (intro e; subst e; omega) | (intro e; subst e; simp_all; done) | exact Prod.ext (by omega) (by omega))) <;> conv => whnf)
  all_goals exact .inl rfl
end Go.Proofs.YtdjoodbidcncaaaGreatDoor.AW

/- Collectors: what is a valid one. -/
namespace Go.Proofs.YtdjoodbidcncaaaGreatDoor.AW
open Go
set_option maxRecDepth 10000
/-! a set of numbers -/
abbrev tr1 : List CV := [.sc (.bool true)]
def setOf (l : List Int) : List (Int × List CV) := l.foldl (fun es z => putM es z tr1) []
theorem setOf_succ {l : List Int} {i : Nat} (h : i < l.length) : setOf (l.take (i + 1)) = putM (setOf (l.take i)) l[i] tr1 := by
  unfold setOf; rw [List.take_succ_eq_append_getElem h, List.foldl_append]; rfl
theorem putM_has (es : List (Int × List CV)) (z : Int) : (z ∈ es.map (·.1) → (putM es z tr1).length = es.length) ∧ (z ∉ es.map (·.1) → (putM es z tr1).length = es.length + 1) ∧ ∀ y, y ∈ (putM es z tr1).map (·.1) ↔ y = z ∨ y ∈ es.map (·.1) := by
  induction es with
  | nil => simp [putM]
  | cons p es ih =>
    obtain ⟨a, x⟩ := p
    obtain ⟨h1, h2, h3⟩ := ih
    by_cases e : a = z
    · subst e
      refine ⟨fun _ => by simp [putM], fun h => absurd (by simp) h, fun y => by simp [putM]⟩
    · simp only [putM, if_neg e]
      refine ⟨fun h => ?_, fun h => ?_, fun y => ?_⟩
      · simp only [List.length_cons, h1 (by simpa [Ne.symm e] using h)]
      · simp only [List.length_cons, h2 (by simpa [Ne.symm e] using h)]
      · simp only [List.map_cons, List.mem_cons, h3]; exact ⟨fun h => by rcases h with h | h | h <;> simp [h], fun h => by rcases h with h | h | h <;> simp [h]⟩
theorem setOf_has (l : List Int) : ((setOf l).length ≤ l.length ∧ ((setOf l).length = l.length ↔ l.Nodup)) ∧ ∀ y, y ∈ (setOf l).map (·.1) ↔ y ∈ l := by
  have key : ∀ (l : List Int) (r : List Int), l = r.reverse → ((setOf l).length ≤ l.length ∧ ((setOf l).length = l.length ↔ l.Nodup)) ∧ ∀ y, y ∈ (setOf l).map (·.1) ↔ y ∈ l := by
    intro l r
    induction r generalizing l with
    | nil => intro h; subst h; simp [setOf]
    | cons z r ih =>
      intro h
      obtain ⟨⟨g1, g2⟩, g3⟩ := ih r.reverse rfl
      have e : setOf l = putM (setOf r.reverse) z tr1 := by subst h; simp [setOf]
      obtain ⟨p1, p2, p3⟩ := putM_has (setOf r.reverse) z
      have hl : l = r.reverse ++ [z] := by simp [h]
      refine ⟨?_, fun y => by rw [e, p3, g3, hl]; simp [or_comm]⟩
      have hn : l.Nodup ↔ r.reverse.Nodup ∧ z ∉ r.reverse := by
        rw [hl, List.nodup_append]
        constructor
        · rintro ⟨a, _, b⟩; exact ⟨a, fun hz => b z hz z (by simp) rfl⟩
        · rintro ⟨a, b⟩; exact ⟨a, by simp, fun x hx y hy ee => b (by simp at hy; rw [← hy, ← ee]; exact hx)⟩
      have hlen : l.length = r.reverse.length + 1 := by simp [hl]
      by_cases hz : z ∈ r.reverse
      · have := p1 ((g3 z).2 hz)
        rw [e, this, hn]
        exact ⟨by omega, ⟨fun q => by omega, fun q => absurd hz q.2⟩⟩
      · have := p2 (fun q => hz ((g3 z).1 q))
        rw [e, this, hn]
        exact ⟨by omega, ⟨fun q => ⟨g2.1 (by omega), hz⟩, fun q => by have := g2.2 q.1; omega⟩⟩
  exact key l l.reverse (by simp)
theorem getM_all {es : List (Int × List CV)} (h : ∀ p ∈ es, p.2 = tr1) (z : Int) : getM es z = if z ∈ es.map (·.1) then some tr1 else none := by
  induction es with
  | nil => rfl
  | cons p es ih =>
    obtain ⟨a, x⟩ := p
    have hx : x = tr1 := h _ (List.mem_cons_self ..)
    subst hx
    by_cases e : a = z
    · subst e; simp [getM]
    · simp only [getM, if_neg e]
      rw [ih fun p hp => h p (List.mem_cons_of_mem _ hp), List.map_cons]
      have : (z ∈ (a :: es.map (·.1))) ↔ z ∈ es.map (·.1) := by rw [List.mem_cons]; exact ⟨fun g => g.resolve_left (Ne.symm e), .inr⟩
      simp only [this]
theorem putM_all {es : List (Int × List CV)} (h : ∀ p ∈ es, p.2 = tr1) (z : Int) : ∀ p ∈ putM es z tr1, p.2 = tr1 := by
  induction es with
  | nil => intro p hp; simp [putM] at hp; rw [hp]
  | cons q es ih =>
    obtain ⟨a, x⟩ := q
    intro p hp
    by_cases e : a = z
    · simp only [putM, if_pos e, List.mem_cons] at hp
      rcases hp with rfl | hp
      · rfl
      · exact h p (List.mem_cons_of_mem _ hp)
    · simp only [putM, if_neg e, List.mem_cons] at hp
      rcases hp with rfl | hp
      · exact h _ (List.mem_cons_self ..)
      · exact ih (fun p hp => h p (List.mem_cons_of_mem _ hp)) p hp
theorem setOf_all (l : List Int) : ∀ p ∈ setOf l, p.2 = tr1 := by
  have : ∀ (l : List Int) (es : List (Int × List CV)), (∀ p ∈ es, p.2 = tr1) → ∀ p ∈ l.foldl (fun es z => putM es z tr1) es, p.2 = tr1 := fun l => by
    induction l with
    | nil => exact fun es h => h
    | cons z l ih => exact fun es h => ih _ (putM_all h z)
  exact this l [] (by simp)
theorem getM_setOf (l : List Int) (z : Int) : getM (setOf l) z = if z ∈ l then some tr1 else none := by
  rw [getM_all (setOf_all l)]
  have := (setOf_has l).2 z
  by_cases h : z ∈ l
  · rw [if_pos h, if_pos (this.2 h)]
  · rw [if_neg h, if_neg fun g => h (this.1 g)]
theorem groupOf_s (l : List Int) (hl : l.length ≤ 1100000) : Spec ctx 71 [sl l none] [] (.tup [.mp 0, bv (decide l.Nodup)]) [(0, some (.mp (setOf l)))] := by
  have la := rows_len ci l
  have hu : ctx.P.underlying 87 = some (.map 3 4) := Tryz.underlying87
  have hk : ctx.P.underlying 3 = some (.int .i64) := Tryz.underlying3
  have hs := (setOf_has l).1
  refine spec_mk ctx_mixed ctx_enters 1 Tryz.func71 rfl rfl (Nat.le_of_ble_eq_true rfl) 0 rfl ?_; conv => whnf
  repeat' ((first | (with_reducible first | refine d_chk ?_ | refine Br.tt ?_ | refine Br.ff ?_ | refine Br.beq ?_ | refine Br.bne ?_ | refine Br.nt ?_ | refine Br.nf ?_ | refine d_wrap ?_ | refine d_rem ?_ | refine d_nat ?_ | refine d_get (by omega) ?_ | refine Br.yesd ?_ | refine Br.nod ?_ | refine Br.yesn ?_ | refine Br.nodn ?_ | refine d_le ?_ | refine d_lt ?_ | refine And.intro ?_ ?_ | exact trivial | exact .inr rfl | rfl | refine sc_int | refine sc_bt ?_ | refine sc_bf ?_ | refine sc_bb ?_ | refine sc_bh ?_ | refine sc_ih ?_) | refine map_make rfl ?_ | with_reducible refine Br.dec (fun _ => ?_) (fun _ => ?_) | with_reducible refine Br.decn (fun _ => ?_) (fun _ => ?_) | with_reducible refine d_left [] ?_ ?_ | exact rfl | exact Nat.le_of_ble_eq_true rfl | (refine Nat.le_of_eq ?_; simp [rows, seqI]; done) | refine call_go rfl rfl [] ?_ | (refine Hid.mk ?_; first | decide | omega | (simp <;> omega) | (intro e; subst e; omega) | (intro e; subst e; simp_all; done) | exact Prod.ext (by omega) (by omega))) <;> conv => whnf)
  refine AW.loopP (fun i : Nat => ⟨[(0, sl l none), (4, .mp 0), (8, sl l none), (9, iv .i64 l.length), (10, iv .i64 i)], [(0, some (.mp (setOf (l.take i))))], 1⟩) (fun i => i ≤ l.length) (fun i => l.length - i) 0 [(0, 0)] (d_sub _ ?_ ?_) (by omega) (fun i hi => ?_) <;> (conv => whnf) <;>
  repeat' ((first | (with_reducible first | refine d_chk ?_ | refine Br.tt ?_ | refine Br.ff ?_ | refine Br.beq ?_ | refine Br.bne ?_ | refine Br.nt ?_ | refine Br.nf ?_ | refine d_wrap ?_ | refine d_rem ?_ | refine d_nat ?_ | refine d_get (by omega) ?_ | refine Br.yesd ?_ | refine Br.nod ?_ | refine Br.yesn ?_ | refine Br.nodn ?_ | refine d_le ?_ | refine d_lt ?_ | refine And.intro ?_ ?_ | exact trivial | exact .inr rfl | rfl | refine sc_int | refine sc_bt ?_ | refine sc_bf ?_ | refine sc_bb ?_ | refine sc_bh ?_ | refine sc_ih ?_) | refine d_end (i+1) [(0, 0)] (d_sub _ ?_ ?_) ?_ | refine map_put rfl hu hk rfl rfl rfl rfl ?_ | refine map_len rfl rfl hu rfl rfl ?_ | with_reducible refine d_left [(0, 0)] ?_ ?_ | with_reducible refine Br.dec (fun _ => ?_) (fun _ => ?_) | with_reducible refine Br.decn (fun _ => ?_) (fun _ => ?_) | with_reducible refine d_left [] ?_ ?_ | exact rfl | exact Nat.le_of_ble_eq_true rfl | (refine Nat.le_of_eq ?_; simp [rows, seqI]; done) | refine call_go rfl rfl [] ?_ | (refine Hid.mk ?_; first | decide | omega | (simp <;> omega) | (intro e; subst e; omega) | (intro e; subst e; simp_all; done) | exact Prod.ext (by omega) (by omega))) <;> conv => whnf)
  · exact (setOf_succ (by omega)).symm
  · rename_i h
    have e : i = l.length := by omega
    subst e
    rw [List.take_length, la]
    exact ⟨⟨fun g => hs.2.1 (by omega), fun g => by rw [hs.2.2 g]⟩⟩
  · have e : i = l.length := by omega
    subst e
    rw [List.take_length]
/-! a search -/
def idxP (p : Int → Bool) (l : List Int) : Int := if ∀ x ∈ l, p x = false then -1 else (l.findIdx p : Int)
theorem idxP_at {p : Int → Bool} {l : List Int} {i : Nat} (hi : i < l.length) (h : ∀ x ∈ l.take i, p x = false) (hb : p l[i] = true) : idxP p l = i := by
  have : ¬ ∀ x ∈ l, p x = false := fun g => by have := g _ (List.getElem_mem hi); rw [hb] at this; cases this
  unfold idxP
  rw [if_neg this]
  have : l.findIdx p = i := by
    rw [List.findIdx_eq hi]
    refine ⟨hb, fun j hj => ?_⟩
    exact h l[j] (by rw [List.mem_take_iff_getElem]; exact ⟨j, by omega, rfl⟩)
  rw [this]
theorem takeP {p : Int → Bool} {l : List Int} {i : Nat} (hi : i < l.length) (h : ∀ x ∈ l.take i, p x = false) (hb : p l[i] = false) : ∀ x ∈ l.take (i + 1), p x = false := by
  intro x hx
  rw [List.take_succ_eq_append_getElem hi] at hx
  rcases List.mem_append.1 hx with h1 | h1
  · exact h x h1
  · simp at h1; subst h1; exact hb
theorem IndexFuncG_s (f : FuncId) (p : Int → Bool) (l : List Int) (hl : l.length ≤ 1100000) (hf : ∀ x ∈ l, Spec ctx f [iv .i64 x] [] (bv (p x)) []) : Spec ctx 185 [sl l none, fnv f] [] (iv .i64 (idxP p l)) [] := by
  have la := rows_len ci l
  refine spec_mk ctx_mixed ctx_enters 0 Tryz.func185 rfl rfl (Nat.le_of_ble_eq_true rfl) 0 rfl ?_; conv => whnf
  repeat' ((first | (with_reducible first | refine d_chk ?_ | refine Br.tt ?_ | refine Br.ff ?_ | refine Br.beq ?_ | refine Br.bne ?_ | refine Br.nt ?_ | refine Br.nf ?_ | refine d_wrap ?_ | refine d_rem ?_ | refine d_nat ?_ | refine d_get (by omega) ?_ | refine Br.yesd ?_ | refine Br.nod ?_ | refine Br.yesn ?_ | refine Br.nodn ?_ | refine d_le ?_ | refine d_lt ?_ | refine And.intro ?_ ?_ | exact trivial | exact .inr rfl | rfl | refine sc_int | refine sc_bt ?_ | refine sc_bf ?_ | refine sc_bb ?_ | refine sc_bh ?_ | refine sc_ih ?_) | with_reducible refine Br.dec (fun _ => ?_) (fun _ => ?_) | with_reducible refine Br.decn (fun _ => ?_) (fun _ => ?_) | with_reducible refine d_left [] ?_ ?_ | exact rfl | exact Nat.le_of_ble_eq_true rfl | (refine Nat.le_of_eq ?_; simp [rows, seqI]; done) | refine call_go rfl rfl [] ?_ | (refine Hid.mk ?_; first | decide | omega | (simp <;> omega) | (intro e; subst e; omega) | (intro e; subst e; simp_all; done) | exact Prod.ext (by omega) (by omega))) <;> conv => whnf)
  refine AW.loopP (fun i : Nat => ⟨[(0, sl l none), (1, fnv f), (7, iv .i64 l.length), (8, iv .i64 i)], [], 0⟩) (fun i => i ≤ l.length ∧ ∀ x ∈ l.take i, p x = false) (fun i => l.length - i) 0 [] (d_sub _ ?_ ?_) ⟨by simp, by simp⟩ (fun i ⟨hi, ht⟩ => ?_) <;> (conv => whnf) <;>
  repeat' ((first | (with_reducible first | refine d_chk ?_ | refine Br.tt ?_ | refine Br.ff ?_ | refine Br.beq ?_ | refine Br.bne ?_ | refine Br.nt ?_ | refine Br.nf ?_ | refine d_wrap ?_ | refine d_rem ?_ | refine d_nat ?_ | refine d_get (by omega) ?_ | refine Br.yesd ?_ | refine Br.nod ?_ | refine Br.yesn ?_ | refine Br.nodn ?_ | refine d_le ?_ | refine d_lt ?_ | refine And.intro ?_ ?_ | exact trivial | exact .inr rfl | rfl | refine sc_int | refine sc_bt ?_ | refine sc_bf ?_ | refine sc_bb ?_ | refine sc_bh ?_ | refine sc_ih ?_) | refine d_end (i+1) [] (d_sub _ ?_ ?_) ?_ | refine callW0 (hf l[i] (List.getElem_mem _)) rfl trivial ?_ | with_reducible refine Br.gen (q := p _) (fun _ => ?_) (fun _ => ?_) | with_reducible refine Br.dec (fun _ => ?_) (fun _ => ?_) | with_reducible refine Br.decn (fun _ => ?_) (fun _ => ?_) | with_reducible refine d_left [] ?_ ?_ | exact rfl | exact Nat.le_of_ble_eq_true rfl | (refine Nat.le_of_eq ?_; simp [rows, seqI]; done) | refine call_go rfl rfl [] ?_ | (refine Hid.mk ?_; first | decide | omega | (simp <;> omega) | (intro e; subst e; omega) | (intro e; subst e; simp_all; done) | exact Prod.ext (by omega) (by omega))) <;> conv => whnf)
  · exact ⟨(idxP_at (by omega) ht ‹_›).symm⟩
  · exact ⟨by omega, takeP (by omega) ht ‹_›⟩
  · refine ⟨?_⟩
    rw [List.take_of_length_le (by omega)] at ht
    unfold idxP; rw [if_pos ht]
theorem ContainsFuncG_s (f : FuncId) (p : Int → Bool) (l : List Int) (hl : l.length ≤ 1100000) (hf : ∀ x ∈ l, Spec ctx f [iv .i64 x] [] (bv (p x)) []) : Spec ctx 131 [sl l none, fnv f] [] (bv (decide (∃ x ∈ l, p x = true))) [] := by
  have e : 0 ≤ idxP p l ↔ ∃ x ∈ l, p x = true := by
    unfold idxP
    split
    · rename_i h; exact ⟨fun g => by omega, fun ⟨x, hx, hp⟩ => by have := h x hx; rw [hp] at this; cases this⟩
    · rename_i h
      exact ⟨fun _ => Classical.byContradiction fun g => h fun x hx => by cases hp : p x with | false => rfl | true => exact absurd ⟨x, hx, hp⟩ g, fun _ => by omega⟩
  refine spec_mk ctx_mixed ctx_enters 0 Tryz.func131 rfl rfl (Nat.le_of_ble_eq_true rfl) 0 rfl ?_; conv => whnf
  repeat' ((first | (with_reducible first | refine d_chk ?_ | refine Br.tt ?_ | refine Br.ff ?_ | refine Br.beq ?_ | refine Br.bne ?_ | refine Br.nt ?_ | refine Br.nf ?_ | refine d_wrap ?_ | refine d_rem ?_ | refine d_nat ?_ | refine d_get (by omega) ?_ | refine Br.yesd ?_ | refine Br.nod ?_ | refine Br.yesn ?_ | refine Br.nodn ?_ | refine d_le ?_ | refine d_lt ?_ | refine And.intro ?_ ?_ | exact trivial | exact .inr rfl | rfl | refine sc_int | refine sc_bt ?_ | refine sc_bf ?_ | refine sc_bb ?_ | refine sc_bh ?_ | refine sc_ih ?_) | refine callW0 (IndexFuncG_s f p l hl hf) rfl trivial ?_ | with_reducible refine Br.dec (fun _ => ?_) (fun _ => ?_) | with_reducible refine Br.decn (fun _ => ?_) (fun _ => ?_) | with_reducible refine d_left [] ?_ ?_ | exact rfl | exact Nat.le_of_ble_eq_true rfl | (refine Nat.le_of_eq ?_; simp [rows, seqI]; done) | refine call_go rfl rfl [] ?_ | (refine Hid.mk ?_; first | decide | omega | (simp <;> omega) | (intro e; subst e; omega) | (intro e; subst e; simp_all; done) | exact Prod.ext (by omega) (by omega))) <;> conv => whnf)
abbrev idO (x : Int) : Prop := 1 ≤ x ∧ x ≤ 99
theorem idsOk1_s (n : Int) : Spec ctx 132 [iv .i64 n] [] (bv (!decide (idO n))) [] := by
  refine spec_mk ctx_mixed ctx_enters 0 Tryz.func132 rfl rfl (Nat.le_of_ble_eq_true rfl) 0 rfl ?_; conv => whnf
  repeat' ((first | (with_reducible first | refine d_chk ?_ | refine Br.tt ?_ | refine Br.ff ?_ | refine Br.beq ?_ | refine Br.bne ?_ | refine Br.nt ?_ | refine Br.nf ?_ | refine d_wrap ?_ | refine d_rem ?_ | refine d_nat ?_ | refine d_get (by omega) ?_ | refine Br.yesd ?_ | refine Br.nod ?_ | refine Br.yesn ?_ | refine Br.nodn ?_ | refine d_le ?_ | refine d_lt ?_ | refine And.intro ?_ ?_ | exact trivial | exact .inr rfl | rfl | refine sc_int | refine sc_bt ?_ | refine sc_bf ?_ | refine sc_bb ?_ | refine sc_bh ?_ | refine sc_ih ?_) | refine callW0 (idOk_s _) rfl trivial ?_ | with_reducible refine Br.dec (fun _ => ?_) (fun _ => ?_) | with_reducible refine Br.decn (fun _ => ?_) (fun _ => ?_) | with_reducible refine d_left [] ?_ ?_ | exact rfl | exact Nat.le_of_ble_eq_true rfl | (refine Nat.le_of_eq ?_; simp [rows, seqI]; done) | refine call_go rfl rfl [] ?_ | (refine Hid.mk ?_; first | decide | omega | (simp <;> omega) | (intro e; subst e; omega) | (intro e; subst e; simp_all; done) | exact Prod.ext (by omega) (by omega))) <;> conv => whnf)
theorem idsOk_s (l : List Int) (m : Int) (hl : l.length ≤ 1100000) : Spec ctx 77 [sl l none, iv .i64 m] [] (bv (decide (l.Nodup ∧ (l.length : Int) ≤ m ∧ ∀ x ∈ l, idO x))) [] := by
  have la := rows_len ci l
  have sC := ContainsFuncG_s 132 (fun x => !decide (idO x)) l hl fun x _ => idsOk1_s x
  have e : decide (∃ x ∈ l, (!decide (idO x)) = true) = !decide (∀ x ∈ l, idO x) := by
    by_cases g : ∀ x ∈ l, idO x
    · rw [decide_eq_true g, decide_eq_false]
      · rfl
      · rintro ⟨x, hx, hp⟩
        rw [decide_eq_true (g x hx)] at hp; cases hp
    · rw [decide_eq_false g, decide_eq_true]
      · rfl
      · exact Classical.byContradiction fun q => g fun x hx => Classical.byContradiction fun r => q ⟨x, hx, by simp only [decide_eq_false r]; rfl⟩
  rw [e] at sC
  refine spec_mk ctx_mixed ctx_enters 0 Tryz.func77 rfl rfl (Nat.le_of_ble_eq_true rfl) 0 rfl ?_; conv => whnf
  repeat' ((first | (with_reducible first | refine d_chk ?_ | refine Br.tt ?_ | refine Br.ff ?_ | refine Br.beq ?_ | refine Br.bne ?_ | refine Br.nt ?_ | refine Br.nf ?_ | refine d_wrap ?_ | refine d_rem ?_ | refine d_nat ?_ | refine d_get (by omega) ?_ | refine Br.yesd ?_ | refine Br.nod ?_ | refine Br.yesn ?_ | refine Br.nodn ?_ | refine d_le ?_ | refine d_lt ?_ | refine And.intro ?_ ?_ | exact trivial | exact .inr rfl | rfl | refine sc_int | refine sc_bt ?_ | refine sc_bf ?_ | refine sc_bb ?_ | refine sc_bh ?_ | refine sc_ih ?_) | refine callWn (groupOf_s l hl) 1 rfl ⟨⟨trivial, trivial, trivial⟩, fun e he c hc => by (have h1 := setOf_all l e he); (rw [h1] at hc); (simp at hc); (subst hc); trivial, trivial⟩ ?_ | refine callW0 sC rfl trivial ?_ | with_reducible refine Br.dec (fun _ => ?_) (fun _ => ?_) | with_reducible refine Br.decn (fun _ => ?_) (fun _ => ?_) | with_reducible refine d_left [] ?_ ?_ | exact rfl | exact Nat.le_of_ble_eq_true rfl | (refine Nat.le_of_eq ?_; simp [rows, seqI]; done) | refine call_go rfl rfl [] ?_ | (refine Hid.mk ?_; first | decide | omega | (simp <;> omega) | (intro e; subst e; omega) | (intro e; subst e; simp_all; done) | exact Prod.ext (by omega) (by omega))) <;> conv => whnf)
  · rename_i h1 h2
    rw [la] at h2
    refine ⟨?_⟩
    rw [Bool.not_not]
    exact decide_eq_decide.2 ⟨fun g => ⟨h1, h2, g⟩, fun g => g.2.2⟩
  all_goals (refine ⟨fun g => ?_⟩; simp_all)
end Go.Proofs.YtdjoodbidcncaaaGreatDoor.AW
