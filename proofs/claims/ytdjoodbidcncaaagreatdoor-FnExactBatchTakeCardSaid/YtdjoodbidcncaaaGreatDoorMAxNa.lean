/- Field elements; the value of a polynomial. -/
import Derived.Test.YtdjoodbidcncaaaGreatDoorMAxEw
import Derived.Test.YtdjoodbidcncaaaGreatDoorMAxPc
import Derived.Test.YtdjoodbidcncaaaGreatDoorMAxIb
set_option linter.unusedVariables false
set_option linter.unusedSimpArgs false
namespace Go.Proofs.YtdjoodbidcncaaaGreatDoor.AW
open Go Go.Conc
set_option maxRecDepth 10000
theorem tmod31 (n : Int) : -30 ≤ n.tmod 31 ∧ n.tmod 31 ≤ 30 ∧ (n.tmod 31 + 31).tmod 31 = n % 31 := by
  have h := Int.tmod_eq_emod (a := n) (b := 31)
  have h1 : -30 ≤ n.tmod 31 ∧ n.tmod 31 ≤ 30 := by
    rw [h]; split <;> omega
  refine ⟨h1.1, h1.2, ?_⟩
  rw [Int.tmod_eq_emod_of_nonneg (by omega), h]
  split <;> omega
theorem elementOf_s (n : Int) (h1 : -1000000 ≤ n) (h2 : n ≤ 1000000) : Spec ctx 129 [iv .i64 n] [] (iv .i64 (n % 31)) [] := by
  obtain ⟨g1, g2, g3⟩ := tmod31 n
  refine spec_mk ctx_mixed ctx_enters 0 Tryz.func129 rfl rfl (Nat.le_of_ble_eq_true rfl) 0 rfl ?_; conv => whnf
  repeat' ((first | (with_reducible first | refine d_chk ?_ | refine Br.tt ?_ | refine Br.ff ?_ | refine Br.beq ?_ | refine Br.bne ?_ | refine Br.nt ?_ | refine Br.nf ?_ | refine d_wrap ?_ | refine d_rem ?_ | refine d_nat ?_ | refine d_get (by omega) ?_ | refine Br.yesd ?_ | refine Br.nod ?_ | refine Br.yesn ?_ | refine Br.nodn ?_ | refine d_le ?_ | refine d_lt ?_ | refine And.intro ?_ ?_ | exact trivial | exact .inr rfl | rfl | refine sc_int | refine sc_bt ?_ | refine sc_bf ?_ | refine sc_bb ?_ | refine sc_bh ?_ | refine sc_ih ?_) | exact fun h => absurd h (by decide) | refine ⟨n % 31, g3, ?_⟩ | refine ⟨n.tmod 31, rfl, ?_⟩ | with_reducible refine Br.dec (fun _ => ?_) (fun _ => ?_) | with_reducible refine Br.decn (fun _ => ?_) (fun _ => ?_) | with_reducible refine d_left [] ?_ ?_ | exact rfl | exact Nat.le_of_ble_eq_true rfl | (refine Nat.le_of_eq ?_; simp [rows, seqI]; done) | refine call_go rfl rfl [] ?_ | (refine Hid.mk ?_; first | decide | omega | (simp <;> omega) | (intro e; subst e; omega) | (intro e; subst e; simp_all; done) | exact Prod.ext (by omega) (by omega))) <;> conv => whnf)
theorem plus_s (a b : Int) (ha : okE a) (hb : okE b) : Spec ctx 73 [iv .i64 a, iv .i64 b] [] (iv .i64 ((a + b) % 31)) [] := by
  obtain ⟨a1, a2⟩ := ha
  obtain ⟨b1, b2⟩ := hb
  refine spec_mk ctx_mixed ctx_enters 0 Tryz.func73 rfl rfl (Nat.le_of_ble_eq_true rfl) 0 rfl ?_; conv => whnf
  repeat' ((first | (with_reducible first | refine d_chk ?_ | refine Br.tt ?_ | refine Br.ff ?_ | refine Br.beq ?_ | refine Br.bne ?_ | refine Br.nt ?_ | refine Br.nf ?_ | refine d_wrap ?_ | refine d_rem ?_ | refine d_nat ?_ | refine d_get (by omega) ?_ | refine Br.yesd ?_ | refine Br.nod ?_ | refine Br.yesn ?_ | refine Br.nodn ?_ | refine d_le ?_ | refine d_lt ?_ | refine And.intro ?_ ?_ | exact trivial | exact .inr rfl | rfl | refine sc_int | refine sc_bt ?_ | refine sc_bf ?_ | refine sc_bb ?_ | refine sc_bh ?_ | refine sc_ih ?_) | refine callW0 (elementOf_s (a + b) (by omega) (by omega)) rfl trivial ?_ | with_reducible refine Br.dec (fun _ => ?_) (fun _ => ?_) | with_reducible refine Br.decn (fun _ => ?_) (fun _ => ?_) | with_reducible refine d_left [] ?_ ?_ | exact rfl | exact Nat.le_of_ble_eq_true rfl | (refine Nat.le_of_eq ?_; simp [rows, seqI]; done) | refine call_go rfl rfl [] ?_ | (refine Hid.mk ?_; first | decide | omega | (simp <;> omega) | (intro e; subst e; omega) | (intro e; subst e; simp_all; done) | exact Prod.ext (by omega) (by omega))) <;> conv => whnf)
theorem minus_s (a b : Int) (ha : okE a) (hb : okE b) : Spec ctx 187 [iv .i64 a, iv .i64 b] [] (iv .i64 ((a - b) % 31)) [] := by
  obtain ⟨a1, a2⟩ := ha
  obtain ⟨b1, b2⟩ := hb
  refine spec_mk ctx_mixed ctx_enters 0 Tryz.func187 rfl rfl (Nat.le_of_ble_eq_true rfl) 0 rfl ?_; conv => whnf
  repeat' ((first | (with_reducible first | refine d_chk ?_ | refine Br.tt ?_ | refine Br.ff ?_ | refine Br.beq ?_ | refine Br.bne ?_ | refine Br.nt ?_ | refine Br.nf ?_ | refine d_wrap ?_ | refine d_rem ?_ | refine d_nat ?_ | refine d_get (by omega) ?_ | refine Br.yesd ?_ | refine Br.nod ?_ | refine Br.yesn ?_ | refine Br.nodn ?_ | refine d_le ?_ | refine d_lt ?_ | refine And.intro ?_ ?_ | exact trivial | exact .inr rfl | rfl | refine sc_int | refine sc_bt ?_ | refine sc_bf ?_ | refine sc_bb ?_ | refine sc_bh ?_ | refine sc_ih ?_) | refine callW0 (elementOf_s (a - b) (by omega) (by omega)) rfl trivial ?_ | with_reducible refine Br.dec (fun _ => ?_) (fun _ => ?_) | with_reducible refine Br.decn (fun _ => ?_) (fun _ => ?_) | with_reducible refine d_left [] ?_ ?_ | exact rfl | exact Nat.le_of_ble_eq_true rfl | (refine Nat.le_of_eq ?_; simp [rows, seqI]; done) | refine call_go rfl rfl [] ?_ | (refine Hid.mk ?_; first | decide | omega | (simp <;> omega) | (intro e; subst e; omega) | (intro e; subst e; simp_all; done) | exact Prod.ext (by omega) (by omega))) <;> conv => whnf)
theorem mul_le {a b : Int} (ha : okE a) (hb : okE b) : 0 ≤ a * b ∧ a * b ≤ 900 := by
  obtain ⟨a1, a2⟩ := ha
  obtain ⟨b1, b2⟩ := hb
  exact ⟨Int.mul_nonneg a1 b1, Int.le_trans (Int.mul_le_mul a2 b2 b1 (by omega)) (by omega)⟩
theorem times_s (a b : Int) (ha : okE a) (hb : okE b) : Spec ctx 154 [iv .i64 a, iv .i64 b] [] (iv .i64 ((a * b) % 31)) [] := by
  obtain ⟨m1, m2⟩ := mul_le ha hb
  refine spec_mk ctx_mixed ctx_enters 0 Tryz.func154 rfl rfl (Nat.le_of_ble_eq_true rfl) 0 rfl ?_; conv => whnf
  repeat' ((first | (with_reducible first | refine d_chk ?_ | refine Br.tt ?_ | refine Br.ff ?_ | refine Br.beq ?_ | refine Br.bne ?_ | refine Br.nt ?_ | refine Br.nf ?_ | refine d_wrap ?_ | refine d_rem ?_ | refine d_nat ?_ | refine d_get (by omega) ?_ | refine Br.yesd ?_ | refine Br.nod ?_ | refine Br.yesn ?_ | refine Br.nodn ?_ | refine d_le ?_ | refine d_lt ?_ | refine And.intro ?_ ?_ | exact trivial | exact .inr rfl | rfl | refine sc_int | refine sc_bt ?_ | refine sc_bf ?_ | refine sc_bb ?_ | refine sc_bh ?_ | refine sc_ih ?_) | refine callW0 (elementOf_s (a * b) (by omega) (by omega)) rfl trivial ?_ | (refine d_wrap (x := a * b) ?_ ⟨by omega, by omega⟩) | with_reducible refine Br.dec (fun _ => ?_) (fun _ => ?_) | with_reducible refine Br.decn (fun _ => ?_) (fun _ => ?_) | with_reducible refine d_left [] ?_ ?_ | exact rfl | exact Nat.le_of_ble_eq_true rfl | (refine Nat.le_of_eq ?_; simp [rows, seqI]; done) | refine call_go rfl rfl [] ?_ | (refine Hid.mk ?_; first | decide | omega | (simp <;> omega) | (intro e; subst e; omega) | (intro e; subst e; simp_all; done) | exact Prod.ext (by omega) (by omega))) <;> conv => whnf)
theorem emod_ok (n : Int) : okE (n % 31) := by constructor <;> omega
/-- by Horner's rule -/
def horner (x : Int) (l : List Int) : Int := l.foldr (fun c out => ((out * x) % 31 + c) % 31) 0
theorem horner_ok (x : Int) (l : List Int) : okE (horner x l) := by
  cases l with
  | nil => exact ⟨by simp [horner], by simp [horner]⟩
  | cons c l => exact emod_ok _
theorem drop_step {l : List Int} {i : Nat} (h : i < l.length) : l.drop (l.length - (i + 1)) = l.getD (l.length - 1 - i) 0 :: l.drop (l.length - i) := by
  have e : l.length - (i + 1) = l.length - 1 - i := by omega
  rw [e, List.drop_eq_getElem_cons (by omega), show l.length - 1 - i + 1 = l.length - i by omega]
  simp [List.getD, show l.length - 1 - i < l.length by omega]
theorem horner_step {x : Int} {l : List Int} {i : Nat} (h : i < l.length) : horner x (l.drop (l.length - (i + 1))) = ((horner x (l.drop (l.length - i)) * x) % 31 + l.getD (l.length - 1 - i) 0) % 31 := by
  rw [drop_step h]; rfl
theorem Backward_s (xs : List Int) : Spec ctx 222 [sl xs none] [] (.fn (.func 230) [] [.ptr 0 1 0 0]) [(0, some (.box [sl xs none]))] := by
  refine spec_mk ctx_mixed ctx_enters 1 Tryz.func222 rfl rfl (Nat.le_of_ble_eq_true rfl) 0 rfl ?_; conv => whnf
  repeat' ((first | (with_reducible first | refine d_chk ?_ | refine Br.tt ?_ | refine Br.ff ?_ | refine Br.beq ?_ | refine Br.bne ?_ | refine Br.nt ?_ | refine Br.nf ?_ | refine d_wrap ?_ | refine d_rem ?_ | refine d_nat ?_ | refine d_get (by omega) ?_ | refine Br.yesd ?_ | refine Br.nod ?_ | refine Br.yesn ?_ | refine Br.nodn ?_ | refine d_le ?_ | refine d_lt ?_ | refine And.intro ?_ ?_ | exact trivial | exact .inr rfl | rfl | refine sc_int | refine sc_bt ?_ | refine sc_bf ?_ | refine sc_bb ?_ | refine sc_bh ?_ | refine sc_ih ?_) | with_reducible refine d_left [(0, 0)] ?_ ?_ | with_reducible refine Br.dec (fun _ => ?_) (fun _ => ?_) | with_reducible refine Br.decn (fun _ => ?_) (fun _ => ?_) | with_reducible refine d_left [] ?_ ?_ | exact rfl | exact Nat.le_of_ble_eq_true rfl | (refine Nat.le_of_eq ?_; simp [rows, seqI]; done) | refine call_go rfl rfl [] ?_ | (refine Hid.mk ?_; first | decide | omega | (simp <;> omega) | (intro e; subst e; omega) | (intro e; subst e; simp_all; done) | exact Prod.ext (by omega) (by omega))) <;> conv => whnf)
theorem value_s (xs : List Int) (x : Int) (hx : ∀ c ∈ xs, okE c) (ho : okE x) (hl : xs.length ≤ 1100000) : Spec ctx 200 [sl xs none, iv .i64 x] [] (iv .i64 (horner x xs)) [] := by
  refine spec_range (P := Tryz.prog) (ti := tys.find) (tok := fun _ _ h => TT.find_all tys_ok h) (gl := gl) ctx_mixed (fun i => [(0, some (.box [iv .i64 x])), (1, some (.box [iv .i64 (horner x (xs.drop (xs.length - i)))]))]) [(3, .ptr 0 1 0 0), (5, .ptr 1 1 0 0)] 2 0
    Tryz.func200 rfl (by rfl) (Nat.le_of_ble_eq_true rfl) (by simp [Tryz.f200]) Tryz.func230 rfl rfl (xs := bwd xs) ?_ ?_ ?_ ?_ ?_ ?_
  · conv => whnf
    have h0 : horner x (xs.drop (xs.length - 0)) = 0 := by simp [horner]
    repeat' ((first | (with_reducible first | refine d_chk ?_ | refine Br.tt ?_ | refine Br.ff ?_ | refine Br.beq ?_ | refine Br.bne ?_ | refine Br.nt ?_ | refine Br.nf ?_ | refine d_wrap ?_ | refine d_rem ?_ | refine d_nat ?_ | refine d_get (by omega) ?_ | refine Br.yesd ?_ | refine Br.nod ?_ | refine Br.yesn ?_ | refine Br.nodn ?_ | refine d_le ?_ | refine d_lt ?_ | refine And.intro ?_ ?_ | exact trivial | exact .inr rfl | rfl | refine sc_int | refine sc_bt ?_ | refine sc_bf ?_ | refine sc_bb ?_ | refine sc_bh ?_ | refine sc_ih ?_) | refine callWm (Backward_s xs) 1 rfl ?_ | with_reducible refine Br.dec (fun _ => ?_) (fun _ => ?_) | with_reducible refine Br.decn (fun _ => ?_) (fun _ => ?_) | with_reducible refine d_left [] ?_ ?_ | exact rfl | exact Nat.le_of_ble_eq_true rfl | (refine Nat.le_of_eq ?_; simp [rows, seqI]; done) | refine call_go rfl rfl [] ?_ | (refine Hid.mk ?_; first | decide | omega | (simp <;> omega) | (intro e; subst e; omega) | (intro e; subst e; simp_all; done) | exact Prod.ext (by omega) (by omega))) <;> conv => whnf)
    refine ⟨_, rfl, ?_⟩
    conv => whnf
    refine ⟨⟨rfl, backward_it xs hl⟩, [(0, 0), (1, 1)], d_sub _ ?_ ?_⟩ <;> (conv => whnf)
    repeat' ((first | (with_reducible first | refine d_chk ?_ | refine Br.tt ?_ | refine Br.ff ?_ | refine Br.beq ?_ | refine Br.bne ?_ | refine Br.nt ?_ | refine Br.nf ?_ | refine d_wrap ?_ | refine d_rem ?_ | refine d_nat ?_ | refine d_get (by omega) ?_ | refine Br.yesd ?_ | refine Br.nod ?_ | refine Br.yesn ?_ | refine Br.nodn ?_ | refine d_le ?_ | refine d_lt ?_ | refine And.intro ?_ ?_ | exact trivial | exact .inr rfl | rfl | refine sc_int | refine sc_bt ?_ | refine sc_bf ?_ | refine sc_bb ?_ | refine sc_bh ?_ | refine sc_ih ?_) | exact congrArg (fun z => CV.sc (.int .i64 z)) h0 | with_reducible refine Br.dec (fun _ => ?_) (fun _ => ?_) | with_reducible refine Br.decn (fun _ => ?_) (fun _ => ?_) | with_reducible refine d_left [] ?_ ?_ | exact rfl | exact Nat.le_of_ble_eq_true rfl | (refine Nat.le_of_eq ?_; simp [rows, seqI]; done) | refine call_go rfl rfl [] ?_ | (refine Hid.mk ?_; first | decide | omega | (simp <;> omega) | (intro e; subst e; omega) | (intro e; subst e; simp_all; done) | exact Prod.ext (by omega) (by omega))) <;> conv => whnf)
  · intro b hb
    match b, hb with
    | 0, _ => rfl
    | 1, _ => rfl
  · intro i hi; rw [bwd_at]; rfl
  · intro p hp; simp at hp; rcases hp with rfl | rfl <;> exact Nat.le_of_ble_eq_true rfl
  · intro i hi
    have hi' : i < xs.length := by rw [bwd_len] at hi; exact hi
    rw [bwd_at]
    have hc : okE (xs.getD (xs.length - 1 - i) 0) := by
      have : xs.length - 1 - i < xs.length := by omega
      simp only [List.getD, List.getElem?_eq_getElem this, Option.getD_some]
      exact hx _ (List.getElem_mem _)
    have hs := horner_step (x := x) hi'
    have hk := horner_ok x (xs.drop (xs.length - i))
    generalize xs.getD (xs.length - 1 - i) 0 = c at *
    rw [hs]
    generalize horner x (xs.drop (xs.length - i)) = out at *
    conv => whnf
    repeat' ((first | (with_reducible first | refine d_chk ?_ | refine Br.tt ?_ | refine Br.ff ?_ | refine Br.beq ?_ | refine Br.bne ?_ | refine Br.nt ?_ | refine Br.nf ?_ | refine d_wrap ?_ | refine d_rem ?_ | refine d_nat ?_ | refine d_get (by omega) ?_ | refine Br.yesd ?_ | refine Br.nod ?_ | refine Br.yesn ?_ | refine Br.nodn ?_ | refine d_le ?_ | refine d_lt ?_ | refine And.intro ?_ ?_ | exact trivial | exact .inr rfl | rfl | refine sc_int | refine sc_bt ?_ | refine sc_bf ?_ | refine sc_bb ?_ | refine sc_bh ?_ | refine sc_ih ?_) | refine callW0 (times_s out x hk ho) rfl trivial ?_ | refine callW0 (plus_s ((out * x) % 31) c (emod_ok _) hc) rfl trivial ?_ | with_reducible refine Br.dec (fun _ => ?_) (fun _ => ?_) | with_reducible refine Br.decn (fun _ => ?_) (fun _ => ?_) | with_reducible refine d_left [] ?_ ?_ | exact rfl | exact Nat.le_of_ble_eq_true rfl | (refine Nat.le_of_eq ?_; simp [rows, seqI]; done) | refine call_go rfl rfl [] ?_ | (refine Hid.mk ?_; first | decide | omega | (simp <;> omega) | (intro e; subst e; omega) | (intro e; subst e; simp_all; done) | exact Prod.ext (by omega) (by omega))) <;> conv => whnf)
  · intro D
    rw [bwd_len, Nat.sub_self, List.drop_zero]
    conv => whnf
    repeat' ((first | (with_reducible first | refine d_chk ?_ | refine Br.tt ?_ | refine Br.ff ?_ | refine Br.beq ?_ | refine Br.bne ?_ | refine Br.nt ?_ | refine Br.nf ?_ | refine d_wrap ?_ | refine d_rem ?_ | refine d_nat ?_ | refine d_get (by omega) ?_ | refine Br.yesd ?_ | refine Br.nod ?_ | refine Br.yesn ?_ | refine Br.nodn ?_ | refine d_le ?_ | refine d_lt ?_ | refine And.intro ?_ ?_ | exact trivial | exact .inr rfl | rfl | refine sc_int | refine sc_bt ?_ | refine sc_bf ?_ | refine sc_bb ?_ | refine sc_bh ?_ | refine sc_ih ?_) | with_reducible refine Br.dec (fun _ => ?_) (fun _ => ?_) | with_reducible refine Br.decn (fun _ => ?_) (fun _ => ?_) | with_reducible refine d_left [] ?_ ?_ | exact rfl | exact Nat.le_of_ble_eq_true rfl | (refine Nat.le_of_eq ?_; simp [rows, seqI]; done) | refine call_go rfl rfl [] ?_ | (refine Hid.mk ?_; first | decide | omega | (simp <;> omega) | (intro e; subst e; omega) | (intro e; subst e; simp_all; done) | exact Prod.ext (by omega) (by omega))) <;> conv => whnf)
end Go.Proofs.YtdjoodbidcncaaaGreatDoor.AW
