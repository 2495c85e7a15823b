/- Field elements: powers, totals, inverses. -/
import Derived.Test.YtdjoodbidcncaaaGreatDoorMAxNa
import Derived.Test.YtdjoodbidcncaaaGreatDoorMAxGi
set_option linter.unusedVariables false
set_option linter.unusedSimpArgs false
namespace Go.Proofs.YtdjoodbidcncaaaGreatDoor.AW
open Go Go.Conc
set_option maxRecDepth 10000
theorem power_s (a : Int) (n : Nat) (ha : okE a) (hn : n ≤ 1000) : Spec ctx 201 [iv .i64 a, iv .i64 n] [] (iv .i64 (askW a n)) [] := by
  refine spec_mk ctx_mixed ctx_enters 0 Tryz.func201 rfl rfl (Nat.le_of_ble_eq_true rfl) 0 rfl ?_; conv => whnf
  repeat' ((first | (with_reducible first | refine d_chk ?_ | refine Br.tt ?_ | refine Br.ff ?_ | refine Br.beq ?_ | refine Br.bne ?_ | refine Br.nt ?_ | refine Br.nf ?_ | refine d_wrap ?_ | refine d_rem ?_ | refine d_nat ?_ | refine d_get (by omega) ?_ | refine Br.yesd ?_ | refine Br.nod ?_ | refine Br.yesn ?_ | refine Br.nodn ?_ | refine d_le ?_ | refine d_lt ?_ | refine And.intro ?_ ?_ | exact trivial | exact .inr rfl | rfl | refine sc_int | refine sc_bt ?_ | refine sc_bf ?_ | refine sc_bb ?_ | refine sc_bh ?_ | refine sc_ih ?_) | with_reducible refine Br.dec (fun _ => ?_) (fun _ => ?_) | with_reducible refine Br.decn (fun _ => ?_) (fun _ => ?_) | with_reducible refine d_left [] ?_ ?_ | exact rfl | exact Nat.le_of_ble_eq_true rfl | (refine Nat.le_of_eq ?_; simp [rows, seqI]; done) | refine call_go rfl rfl [] ?_ | (refine Hid.mk ?_; first | decide | omega | (simp <;> omega) | (intro e; subst e; omega) | (intro e; subst e; simp_all; done) | exact Prod.ext (by omega) (by omega))) <;> conv => whnf)
  refine AW.loopP (fun i : Nat => ⟨[(0, iv .i64 a), (5, iv .i64 (askW a i)), (6, iv .i64 n), (7, iv .i64 i)], [], 0⟩) (fun i => i ≤ n) (fun i => n - i) 0 [] (d_sub _ ?_ ?_) (by omega) (fun i hi => ?_) <;> (conv => whnf) <;>
  repeat' ((first | (with_reducible first | refine d_chk ?_ | refine Br.tt ?_ | refine Br.ff ?_ | refine Br.beq ?_ | refine Br.bne ?_ | refine Br.nt ?_ | refine Br.nf ?_ | refine d_wrap ?_ | refine d_rem ?_ | refine d_nat ?_ | refine d_get (by omega) ?_ | refine Br.yesd ?_ | refine Br.nod ?_ | refine Br.yesn ?_ | refine Br.nodn ?_ | refine d_le ?_ | refine d_lt ?_ | refine And.intro ?_ ?_ | exact trivial | exact .inr rfl | rfl | refine sc_int | refine sc_bt ?_ | refine sc_bf ?_ | refine sc_bb ?_ | refine sc_bh ?_ | refine sc_ih ?_) | refine callW0 (times_s (askW a i) a (askW_ok a i) ha) rfl trivial ?_ | refine d_end (i+1) [] (d_sub _ ?_ ?_) ?_ | with_reducible refine Br.dec (fun _ => ?_) (fun _ => ?_) | with_reducible refine Br.decn (fun _ => ?_) (fun _ => ?_) | with_reducible refine d_left [] ?_ ?_ | exact rfl | exact Nat.le_of_ble_eq_true rfl | (refine Nat.le_of_eq ?_; simp [rows, seqI]; done) | refine call_go rfl rfl [] ?_ | (refine Hid.mk ?_; first | decide | omega | (simp <;> omega) | (intro e; subst e; omega) | (intro e; subst e; simp_all; done) | exact Prod.ext (by omega) (by omega))) <;> conv => whnf)
  all_goals (first | exact ⟨rfl⟩ | exact ⟨by rw [show i = n by omega]⟩)
theorem total_s (v : List Int) (hv : allE v) (hl : v.length ≤ 1000) : Spec ctx 202 [sl v none] [] (iv .i64 (askS v v.length)) [] := by
  have la := rows_len ci v
  refine spec_mk ctx_mixed ctx_enters 0 Tryz.func202 rfl rfl (Nat.le_of_ble_eq_true rfl) 0 rfl ?_; conv => whnf
  repeat' ((first | (with_reducible first | refine d_chk ?_ | refine Br.tt ?_ | refine Br.ff ?_ | refine Br.beq ?_ | refine Br.bne ?_ | refine Br.nt ?_ | refine Br.nf ?_ | refine d_wrap ?_ | refine d_rem ?_ | refine d_nat ?_ | refine d_get (by omega) ?_ | refine Br.yesd ?_ | refine Br.nod ?_ | refine Br.yesn ?_ | refine Br.nodn ?_ | refine d_le ?_ | refine d_lt ?_ | refine And.intro ?_ ?_ | exact trivial | exact .inr rfl | rfl | refine sc_int | refine sc_bt ?_ | refine sc_bf ?_ | refine sc_bb ?_ | refine sc_bh ?_ | refine sc_ih ?_) | with_reducible refine Br.dec (fun _ => ?_) (fun _ => ?_) | with_reducible refine Br.decn (fun _ => ?_) (fun _ => ?_) | with_reducible refine d_left [] ?_ ?_ | exact rfl | exact Nat.le_of_ble_eq_true rfl | (refine Nat.le_of_eq ?_; simp [rows, seqI]; done) | refine call_go rfl rfl [] ?_ | (refine Hid.mk ?_; first | decide | omega | (simp <;> omega) | (intro e; subst e; omega) | (intro e; subst e; simp_all; done) | exact Prod.ext (by omega) (by omega))) <;> conv => whnf)
  refine AW.loopP (fun i : Nat => ⟨[(3, iv .i64 (askS v i)), (6, sl v none), (7, iv .i64 v.length), (8, iv .i64 i)], [], 0⟩) (fun i => i ≤ v.length) (fun i => v.length - i) 0 [] (d_sub _ ?_ ?_) (by omega) (fun i hi => ?_) <;> (conv => whnf) <;>
  repeat' ((first | (with_reducible first | refine d_chk ?_ | refine Br.tt ?_ | refine Br.ff ?_ | refine Br.beq ?_ | refine Br.bne ?_ | refine Br.nt ?_ | refine Br.nf ?_ | refine d_wrap ?_ | refine d_rem ?_ | refine d_nat ?_ | refine d_get (by omega) ?_ | refine Br.yesd ?_ | refine Br.nod ?_ | refine Br.yesn ?_ | refine Br.nodn ?_ | refine d_le ?_ | refine d_lt ?_ | refine And.intro ?_ ?_ | exact trivial | exact .inr rfl | rfl | refine sc_int | refine sc_bt ?_ | refine sc_bf ?_ | refine sc_bb ?_ | refine sc_bh ?_ | refine sc_ih ?_) | refine callW0 (plus_s (askS v i) v[i] (askS_ok v i) (allE_get hv _)) rfl trivial ?_ | refine d_end (i+1) [] (d_sub _ ?_ ?_) ?_ | with_reducible refine Br.dec (fun _ => ?_) (fun _ => ?_) | with_reducible refine Br.decn (fun _ => ?_) (fun _ => ?_) | with_reducible refine d_left [] ?_ ?_ | exact rfl | exact Nat.le_of_ble_eq_true rfl | (refine Nat.le_of_eq ?_; simp [rows, seqI]; done) | refine call_go rfl rfl [] ?_ | (refine Hid.mk ?_; first | decide | omega | (simp <;> omega) | (intro e; subst e; omega) | (intro e; subst e; simp_all; done) | exact Prod.ext (by omega) (by omega))) <;> conv => whnf)
  · exact ⟨rfl⟩
  · exact ⟨by rw [askS, getD_get (by omega)]⟩
  · exact ⟨by rw [show i = v.length by omega]⟩
theorem lowered_s (v : List Int) (c : Int) (hv : allE v) (hc : okE c) (hl : v.length ≤ 1000) : Spec ctx 139 [sl v none, iv .i64 c] [] (.own 0 1 0 v.length none) [(0, some (.row 1 (rows ci (v.map fun n => (n - c) % 31))))] := by
  have la := rows_len ci v
  have ll := fun i => rows_len ci ((v.map fun n => (n - c) % 31).take i)
  refine spec_mk ctx_mixed ctx_enters 4 Tryz.func139 rfl rfl (Nat.le_of_ble_eq_true rfl) 0 rfl ?_; conv => whnf
  repeat' ((first | (with_reducible first | refine d_chk ?_ | refine Br.tt ?_ | refine Br.ff ?_ | refine Br.beq ?_ | refine Br.bne ?_ | refine Br.nt ?_ | refine Br.nf ?_ | refine d_wrap ?_ | refine d_rem ?_ | refine d_nat ?_ | refine d_get (by omega) ?_ | refine Br.yesd ?_ | refine Br.nod ?_ | refine Br.yesn ?_ | refine Br.nodn ?_ | refine d_le ?_ | refine d_lt ?_ | refine And.intro ?_ ?_ | exact trivial | exact .inr rfl | rfl | refine sc_int | refine sc_bt ?_ | refine sc_bf ?_ | refine sc_bb ?_ | refine sc_bh ?_ | refine sc_ih ?_) | (refine ⟨0, rfl, ?_⟩) | (refine ⟨v.length, by omega, ?_⟩) | with_reducible refine Br.dec (fun _ => ?_) (fun _ => ?_) | with_reducible refine Br.decn (fun _ => ?_) (fun _ => ?_) | with_reducible refine d_left [] ?_ ?_ | exact rfl | exact Nat.le_of_ble_eq_true rfl | (refine Nat.le_of_eq ?_; simp [rows, seqI]; done) | refine call_go rfl rfl [] ?_ | (refine Hid.mk ?_; first | decide | omega | (simp <;> omega) | (intro e; subst e; omega) | (intro e; subst e; simp_all; done) | exact Prod.ext (by omega) (by omega))) <;> conv => whnf)
  refine AW.loopP (fun i : Nat => ⟨[(1, iv .i64 c), (5, .own 0 1 0 i none), (11, sl v none), (12, iv .i64 v.length), (13, iv .i64 i)], [(0, some (.row 1 (rows ci ((v.map fun n => (n - c) % 31).take i))))], 1⟩) (fun i => i ≤ v.length) (fun i => v.length - i) 0 [(0, 0)] (d_sub _ ?_ ?_) (by omega) (fun i hi => ?_) <;> (conv => whnf) <;>
  repeat' ((first | (with_reducible first | refine d_chk ?_ | refine Br.tt ?_ | refine Br.ff ?_ | refine Br.beq ?_ | refine Br.bne ?_ | refine Br.nt ?_ | refine Br.nf ?_ | refine d_wrap ?_ | refine d_rem ?_ | refine d_nat ?_ | refine d_get (by omega) ?_ | refine Br.yesd ?_ | refine Br.nod ?_ | refine Br.yesn ?_ | refine Br.nodn ?_ | refine d_le ?_ | refine d_lt ?_ | refine And.intro ?_ ?_ | exact trivial | exact .inr rfl | rfl | refine sc_int | refine sc_bt ?_ | refine sc_bf ?_ | refine sc_bb ?_ | refine sc_bh ?_ | refine sc_ih ?_) | refine callW0 (minus_s v[i] c (allE_get hv _) hc) rfl trivial ?_ | refine d_end (i+1) [(0, 2)] (d_sub _ ?_ ?_) ?_ | with_reducible refine d_left [(0, 0)] ?_ ?_ | with_reducible refine Br.dec (fun _ => ?_) (fun _ => ?_) | with_reducible refine Br.decn (fun _ => ?_) (fun _ => ?_) | with_reducible refine d_left [] ?_ ?_ | exact rfl | exact Nat.le_of_ble_eq_true rfl | (refine Nat.le_of_eq ?_; simp [rows, seqI]; done) | refine call_go rfl rfl [] ?_ | (refine Hid.mk ?_; first | decide | omega | (simp <;> omega) | (intro e; subst e; omega) | (intro e; subst e; simp_all; done) | exact Prod.ext (by omega) (by omega))) <;> conv => whnf)
  · exact .inl rfl
  · show i ≤ _
    rw [ll, List.length_take, List.length_map]; omega
  · show (2 * (i + 1) + 768) * 8 ≤ 281474976710656
    omega
  · exact rows_grow (by rw [List.length_map]; omega) (by simp)
  · omega
  · rw [List.take_of_length_le (by rw [List.length_map]; omega)]
theorem ahead_s (v : List Int) (n : Int) (hl : v.length ≤ 1000) : Spec ctx 138 [iv .i64 n, sl v none] [] (.own 0 1 0 (v.length + 1) none) [(0, some (.row 1 (rows ci (n :: v))))] := by
  have la := rows_len ci v
  refine spec_mk ctx_mixed ctx_enters 4 Tryz.func138 rfl rfl (Nat.le_of_ble_eq_true rfl) 0 rfl ?_; conv => whnf
  repeat' ((first | (with_reducible first | refine d_chk ?_ | refine Br.tt ?_ | refine Br.ff ?_ | refine Br.beq ?_ | refine Br.bne ?_ | refine Br.nt ?_ | refine Br.nf ?_ | refine d_wrap ?_ | refine d_rem ?_ | refine d_nat ?_ | refine d_get (by omega) ?_ | refine Br.yesd ?_ | refine Br.nod ?_ | refine Br.yesn ?_ | refine Br.nodn ?_ | refine d_le ?_ | refine d_lt ?_ | refine And.intro ?_ ?_ | exact trivial | exact .inr rfl | rfl | refine sc_int | refine sc_bt ?_ | refine sc_bf ?_ | refine sc_bb ?_ | refine sc_bh ?_ | refine sc_ih ?_) | with_reducible refine d_left [(0, 1)] ?_ ?_ | with_reducible refine Br.dec (fun _ => ?_) (fun _ => ?_) | with_reducible refine Br.decn (fun _ => ?_) (fun _ => ?_) | with_reducible refine d_left [] ?_ ?_ | exact rfl | exact Nat.le_of_ble_eq_true rfl | (refine Nat.le_of_eq ?_; simp [rows, seqI]; done) | refine call_go rfl rfl [] ?_ | (refine Hid.mk ?_; first | decide | omega | (simp <;> omega) | (intro e; subst e; omega) | (intro e; subst e; simp_all; done) | exact Prod.ext (by omega) (by omega))) <;> conv => whnf)
  · show (2 * (1 + (rows ci v).length) + 768) * 8 ≤ 281474976710656
    omega
  · show 1 + (rows ci v).length = _
    omega
def tb1 : Nat → Int × Int × Int × Int
  | 0 => (31, 1, 0, 1)
  | _ => (1, 0, 1, -31)
theorem inverse1_s : Spec ctx 188 [iv .i64 1] [] (iv .i64 1) [] := by
  refine spec_mk ctx_mixed ctx_enters 0 Tryz.func188 rfl rfl (Nat.le_of_ble_eq_true rfl) 0 rfl ?_; conv => whnf
  repeat' ((first | (with_reducible first | refine d_chk ?_ | refine Br.tt ?_ | refine Br.ff ?_ | refine Br.beq ?_ | refine Br.bne ?_ | refine Br.nt ?_ | refine Br.nf ?_ | refine d_wrap ?_ | refine d_rem ?_ | refine d_nat ?_ | refine d_get (by omega) ?_ | refine Br.yesd ?_ | refine Br.nod ?_ | refine Br.yesn ?_ | refine Br.nodn ?_ | refine d_le ?_ | refine d_lt ?_ | refine And.intro ?_ ?_ | exact trivial | exact .inr rfl | rfl | refine sc_int | refine sc_bt ?_ | refine sc_bf ?_ | refine sc_bb ?_ | refine sc_bh ?_ | refine sc_ih ?_) | with_reducible refine Br.dec (fun _ => ?_) (fun _ => ?_) | with_reducible refine Br.decn (fun _ => ?_) (fun _ => ?_) | with_reducible refine d_left [] ?_ ?_ | exact rfl | exact Nat.le_of_ble_eq_true rfl | (refine Nat.le_of_eq ?_; simp [rows, seqI]; done) | refine call_go rfl rfl [] ?_ | (refine Hid.mk ?_; first | decide | omega | (simp <;> omega) | (intro e; subst e; omega) | (intro e; subst e; simp_all; done) | exact Prod.ext (by omega) (by omega))) <;> conv => whnf)
  refine AW.loopP (fun i : Nat => ⟨[(3, iv .i64 (tb1 i).1), (4, iv .i64 (tb1 i).2.1), (5, iv .i64 (tb1 i).2.2.1), (6, iv .i64 (tb1 i).2.2.2)], [], 0⟩) (fun i => i ≤ 1) (fun i => 1 - i) 0 [] (d_sub _ ?_ ?_) (by omega) (fun i hi => ?_)
  · (conv => whnf)
    repeat' ((first | (with_reducible first | refine d_chk ?_ | refine Br.tt ?_ | refine Br.ff ?_ | refine Br.beq ?_ | refine Br.bne ?_ | refine Br.nt ?_ | refine Br.nf ?_ | refine d_wrap ?_ | refine d_rem ?_ | refine d_nat ?_ | refine d_get (by omega) ?_ | refine Br.yesd ?_ | refine Br.nod ?_ | refine Br.yesn ?_ | refine Br.nodn ?_ | refine d_le ?_ | refine d_lt ?_ | refine And.intro ?_ ?_ | exact trivial | exact .inr rfl | rfl | refine sc_int | refine sc_bt ?_ | refine sc_bf ?_ | refine sc_bb ?_ | refine sc_bh ?_ | refine sc_ih ?_) | with_reducible refine Br.dec (fun _ => ?_) (fun _ => ?_) | with_reducible refine Br.decn (fun _ => ?_) (fun _ => ?_) | with_reducible refine d_left [] ?_ ?_ | exact rfl | exact Nat.le_of_ble_eq_true rfl | (refine Nat.le_of_eq ?_; simp [rows, seqI]; done) | refine call_go rfl rfl [] ?_ | (refine Hid.mk ?_; first | decide | omega | (simp <;> omega) | (intro e; subst e; omega) | (intro e; subst e; simp_all; done) | exact Prod.ext (by omega) (by omega))) <;> conv => whnf)
  · (conv => whnf)
    repeat' ((first | (with_reducible first | refine d_chk ?_ | refine Br.tt ?_ | refine Br.ff ?_ | refine Br.beq ?_ | refine Br.bne ?_ | refine Br.nt ?_ | refine Br.nf ?_ | refine d_wrap ?_ | refine d_rem ?_ | refine d_nat ?_ | refine d_get (by omega) ?_ | refine Br.yesd ?_ | refine Br.nod ?_ | refine Br.yesn ?_ | refine Br.nodn ?_ | refine d_le ?_ | refine d_lt ?_ | refine And.intro ?_ ?_ | exact trivial | exact .inr rfl | rfl | refine sc_int | refine sc_bt ?_ | refine sc_bf ?_ | refine sc_bb ?_ | refine sc_bh ?_ | refine sc_ih ?_) | with_reducible refine Br.dec (fun _ => ?_) (fun _ => ?_) | with_reducible refine Br.decn (fun _ => ?_) (fun _ => ?_) | with_reducible refine d_left [] ?_ ?_ | exact rfl | exact Nat.le_of_ble_eq_true rfl | (refine Nat.le_of_eq ?_; simp [rows, seqI]; done) | refine call_go rfl rfl [] ?_ | (refine Hid.mk ?_; first | decide | omega | (simp <;> omega) | (intro e; subst e; omega) | (intro e; subst e; simp_all; done) | exact Prod.ext (by omega) (by omega))) <;> conv => whnf)
  have hc : i = 0 ∨ i = 1 := by omega
  rcases hc with rfl | rfl
  · rw [show tb1 0 = (31, 1, 0, 1) from rfl]; dsimp only
    (conv => whnf)
    repeat' ((first | (with_reducible first | refine d_chk ?_ | refine Br.tt ?_ | refine Br.ff ?_ | refine Br.beq ?_ | refine Br.bne ?_ | refine Br.nt ?_ | refine Br.nf ?_ | refine d_wrap ?_ | refine d_rem ?_ | refine d_nat ?_ | refine d_get (by omega) ?_ | refine Br.yesd ?_ | refine Br.nod ?_ | refine Br.yesn ?_ | refine Br.nodn ?_ | refine d_le ?_ | refine d_lt ?_ | refine And.intro ?_ ?_ | exact trivial | exact .inr rfl | rfl | refine sc_int | refine sc_bt ?_ | refine sc_bf ?_ | refine sc_bb ?_ | refine sc_bh ?_ | refine sc_ih ?_) | refine callW0 (elementOf_s (1) (by decide) (by decide)) rfl trivial ?_ | exact fun h => absurd h (by decide) | (refine ⟨31, by decide, ?_⟩) | refine d_end 1 [] (d_sub _ ?_ ?_) ?_ | with_reducible refine Br.dec (fun _ => ?_) (fun _ => ?_) | with_reducible refine Br.decn (fun _ => ?_) (fun _ => ?_) | with_reducible refine d_left [] ?_ ?_ | exact rfl | exact Nat.le_of_ble_eq_true rfl | (refine Nat.le_of_eq ?_; simp [rows, seqI]; done) | refine call_go rfl rfl [] ?_ | (refine Hid.mk ?_; first | decide | omega | (simp <;> omega) | (intro e; subst e; omega) | (intro e; subst e; simp_all; done) | exact Prod.ext (by omega) (by omega))) <;> conv => whnf)
  · rw [show tb1 1 = (1, 0, 1, -31) from rfl]; dsimp only
    (conv => whnf)
    repeat' ((first | (with_reducible first | refine d_chk ?_ | refine Br.tt ?_ | refine Br.ff ?_ | refine Br.beq ?_ | refine Br.bne ?_ | refine Br.nt ?_ | refine Br.nf ?_ | refine d_wrap ?_ | refine d_rem ?_ | refine d_nat ?_ | refine d_get (by omega) ?_ | refine Br.yesd ?_ | refine Br.nod ?_ | refine Br.yesn ?_ | refine Br.nodn ?_ | refine d_le ?_ | refine d_lt ?_ | refine And.intro ?_ ?_ | exact trivial | exact .inr rfl | rfl | refine sc_int | refine sc_bt ?_ | refine sc_bf ?_ | refine sc_bb ?_ | refine sc_bh ?_ | refine sc_ih ?_) | refine callW0 (elementOf_s (1) (by decide) (by decide)) rfl trivial ?_ | exact fun h => absurd h (by decide) | (refine ⟨0, by decide, ?_⟩) | refine d_end 2 [] (d_sub _ ?_ ?_) ?_ | with_reducible refine Br.dec (fun _ => ?_) (fun _ => ?_) | with_reducible refine Br.decn (fun _ => ?_) (fun _ => ?_) | with_reducible refine d_left [] ?_ ?_ | exact rfl | exact Nat.le_of_ble_eq_true rfl | (refine Nat.le_of_eq ?_; simp [rows, seqI]; done) | refine call_go rfl rfl [] ?_ | (refine Hid.mk ?_; first | decide | omega | (simp <;> omega) | (intro e; subst e; omega) | (intro e; subst e; simp_all; done) | exact Prod.ext (by omega) (by omega))) <;> conv => whnf)
def tb2 : Nat → Int × Int × Int × Int
  | 0 => (31, 2, 0, 1)
  | 1 => (2, 1, 1, -15)
  | _ => (1, 0, -15, 31)
theorem inverse2_s : Spec ctx 188 [iv .i64 2] [] (iv .i64 16) [] := by
  refine spec_mk ctx_mixed ctx_enters 0 Tryz.func188 rfl rfl (Nat.le_of_ble_eq_true rfl) 0 rfl ?_; conv => whnf
  repeat' ((first | (with_reducible first | refine d_chk ?_ | refine Br.tt ?_ | refine Br.ff ?_ | refine Br.beq ?_ | refine Br.bne ?_ | refine Br.nt ?_ | refine Br.nf ?_ | refine d_wrap ?_ | refine d_rem ?_ | refine d_nat ?_ | refine d_get (by omega) ?_ | refine Br.yesd ?_ | refine Br.nod ?_ | refine Br.yesn ?_ | refine Br.nodn ?_ | refine d_le ?_ | refine d_lt ?_ | refine And.intro ?_ ?_ | exact trivial | exact .inr rfl | rfl | refine sc_int | refine sc_bt ?_ | refine sc_bf ?_ | refine sc_bb ?_ | refine sc_bh ?_ | refine sc_ih ?_) | with_reducible refine Br.dec (fun _ => ?_) (fun _ => ?_) | with_reducible refine Br.decn (fun _ => ?_) (fun _ => ?_) | with_reducible refine d_left [] ?_ ?_ | exact rfl | exact Nat.le_of_ble_eq_true rfl | (refine Nat.le_of_eq ?_; simp [rows, seqI]; done) | refine call_go rfl rfl [] ?_ | (refine Hid.mk ?_; first | decide | omega | (simp <;> omega) | (intro e; subst e; omega) | (intro e; subst e; simp_all; done) | exact Prod.ext (by omega) (by omega))) <;> conv => whnf)
  refine AW.loopP (fun i : Nat => ⟨[(3, iv .i64 (tb2 i).1), (4, iv .i64 (tb2 i).2.1), (5, iv .i64 (tb2 i).2.2.1), (6, iv .i64 (tb2 i).2.2.2)], [], 0⟩) (fun i => i ≤ 2) (fun i => 2 - i) 0 [] (d_sub _ ?_ ?_) (by omega) (fun i hi => ?_)
  · (conv => whnf)
    repeat' ((first | (with_reducible first | refine d_chk ?_ | refine Br.tt ?_ | refine Br.ff ?_ | refine Br.beq ?_ | refine Br.bne ?_ | refine Br.nt ?_ | refine Br.nf ?_ | refine d_wrap ?_ | refine d_rem ?_ | refine d_nat ?_ | refine d_get (by omega) ?_ | refine Br.yesd ?_ | refine Br.nod ?_ | refine Br.yesn ?_ | refine Br.nodn ?_ | refine d_le ?_ | refine d_lt ?_ | refine And.intro ?_ ?_ | exact trivial | exact .inr rfl | rfl | refine sc_int | refine sc_bt ?_ | refine sc_bf ?_ | refine sc_bb ?_ | refine sc_bh ?_ | refine sc_ih ?_) | with_reducible refine Br.dec (fun _ => ?_) (fun _ => ?_) | with_reducible refine Br.decn (fun _ => ?_) (fun _ => ?_) | with_reducible refine d_left [] ?_ ?_ | exact rfl | exact Nat.le_of_ble_eq_true rfl | (refine Nat.le_of_eq ?_; simp [rows, seqI]; done) | refine call_go rfl rfl [] ?_ | (refine Hid.mk ?_; first | decide | omega | (simp <;> omega) | (intro e; subst e; omega) | (intro e; subst e; simp_all; done) | exact Prod.ext (by omega) (by omega))) <;> conv => whnf)
  · (conv => whnf)
    repeat' ((first | (with_reducible first | refine d_chk ?_ | refine Br.tt ?_ | refine Br.ff ?_ | refine Br.beq ?_ | refine Br.bne ?_ | refine Br.nt ?_ | refine Br.nf ?_ | refine d_wrap ?_ | refine d_rem ?_ | refine d_nat ?_ | refine d_get (by omega) ?_ | refine Br.yesd ?_ | refine Br.nod ?_ | refine Br.yesn ?_ | refine Br.nodn ?_ | refine d_le ?_ | refine d_lt ?_ | refine And.intro ?_ ?_ | exact trivial | exact .inr rfl | rfl | refine sc_int | refine sc_bt ?_ | refine sc_bf ?_ | refine sc_bb ?_ | refine sc_bh ?_ | refine sc_ih ?_) | with_reducible refine Br.dec (fun _ => ?_) (fun _ => ?_) | with_reducible refine Br.decn (fun _ => ?_) (fun _ => ?_) | with_reducible refine d_left [] ?_ ?_ | exact rfl | exact Nat.le_of_ble_eq_true rfl | (refine Nat.le_of_eq ?_; simp [rows, seqI]; done) | refine call_go rfl rfl [] ?_ | (refine Hid.mk ?_; first | decide | omega | (simp <;> omega) | (intro e; subst e; omega) | (intro e; subst e; simp_all; done) | exact Prod.ext (by omega) (by omega))) <;> conv => whnf)
  have hc : i = 0 ∨ i = 1 ∨ i = 2 := by omega
  rcases hc with rfl | rfl | rfl
  · rw [show tb2 0 = (31, 2, 0, 1) from rfl]; dsimp only
    (conv => whnf)
    repeat' ((first | (with_reducible first | refine d_chk ?_ | refine Br.tt ?_ | refine Br.ff ?_ | refine Br.beq ?_ | refine Br.bne ?_ | refine Br.nt ?_ | refine Br.nf ?_ | refine d_wrap ?_ | refine d_rem ?_ | refine d_nat ?_ | refine d_get (by omega) ?_ | refine Br.yesd ?_ | refine Br.nod ?_ | refine Br.yesn ?_ | refine Br.nodn ?_ | refine d_le ?_ | refine d_lt ?_ | refine And.intro ?_ ?_ | exact trivial | exact .inr rfl | rfl | refine sc_int | refine sc_bt ?_ | refine sc_bf ?_ | refine sc_bb ?_ | refine sc_bh ?_ | refine sc_ih ?_) | refine callW0 (elementOf_s (-15) (by decide) (by decide)) rfl trivial ?_ | exact fun h => absurd h (by decide) | (refine ⟨15, by decide, ?_⟩) | refine d_end 1 [] (d_sub _ ?_ ?_) ?_ | with_reducible refine Br.dec (fun _ => ?_) (fun _ => ?_) | with_reducible refine Br.decn (fun _ => ?_) (fun _ => ?_) | with_reducible refine d_left [] ?_ ?_ | exact rfl | exact Nat.le_of_ble_eq_true rfl | (refine Nat.le_of_eq ?_; simp [rows, seqI]; done) | refine call_go rfl rfl [] ?_ | (refine Hid.mk ?_; first | decide | omega | (simp <;> omega) | (intro e; subst e; omega) | (intro e; subst e; simp_all; done) | exact Prod.ext (by omega) (by omega))) <;> conv => whnf)
  · rw [show tb2 1 = (2, 1, 1, -15) from rfl]; dsimp only
    (conv => whnf)
    repeat' ((first | (with_reducible first | refine d_chk ?_ | refine Br.tt ?_ | refine Br.ff ?_ | refine Br.beq ?_ | refine Br.bne ?_ | refine Br.nt ?_ | refine Br.nf ?_ | refine d_wrap ?_ | refine d_rem ?_ | refine d_nat ?_ | refine d_get (by omega) ?_ | refine Br.yesd ?_ | refine Br.nod ?_ | refine Br.yesn ?_ | refine Br.nodn ?_ | refine d_le ?_ | refine d_lt ?_ | refine And.intro ?_ ?_ | exact trivial | exact .inr rfl | rfl | refine sc_int | refine sc_bt ?_ | refine sc_bf ?_ | refine sc_bb ?_ | refine sc_bh ?_ | refine sc_ih ?_) | refine callW0 (elementOf_s (-15) (by decide) (by decide)) rfl trivial ?_ | exact fun h => absurd h (by decide) | (refine ⟨2, by decide, ?_⟩) | refine d_end 2 [] (d_sub _ ?_ ?_) ?_ | with_reducible refine Br.dec (fun _ => ?_) (fun _ => ?_) | with_reducible refine Br.decn (fun _ => ?_) (fun _ => ?_) | with_reducible refine d_left [] ?_ ?_ | exact rfl | exact Nat.le_of_ble_eq_true rfl | (refine Nat.le_of_eq ?_; simp [rows, seqI]; done) | refine call_go rfl rfl [] ?_ | (refine Hid.mk ?_; first | decide | omega | (simp <;> omega) | (intro e; subst e; omega) | (intro e; subst e; simp_all; done) | exact Prod.ext (by omega) (by omega))) <;> conv => whnf)
  · rw [show tb2 2 = (1, 0, -15, 31) from rfl]; dsimp only
    (conv => whnf)
    repeat' ((first | (with_reducible first | refine d_chk ?_ | refine Br.tt ?_ | refine Br.ff ?_ | refine Br.beq ?_ | refine Br.bne ?_ | refine Br.nt ?_ | refine Br.nf ?_ | refine d_wrap ?_ | refine d_rem ?_ | refine d_nat ?_ | refine d_get (by omega) ?_ | refine Br.yesd ?_ | refine Br.nod ?_ | refine Br.yesn ?_ | refine Br.nodn ?_ | refine d_le ?_ | refine d_lt ?_ | refine And.intro ?_ ?_ | exact trivial | exact .inr rfl | rfl | refine sc_int | refine sc_bt ?_ | refine sc_bf ?_ | refine sc_bb ?_ | refine sc_bh ?_ | refine sc_ih ?_) | refine callW0 (elementOf_s (-15) (by decide) (by decide)) rfl trivial ?_ | exact fun h => absurd h (by decide) | (refine ⟨0, by decide, ?_⟩) | refine d_end 3 [] (d_sub _ ?_ ?_) ?_ | with_reducible refine Br.dec (fun _ => ?_) (fun _ => ?_) | with_reducible refine Br.decn (fun _ => ?_) (fun _ => ?_) | with_reducible refine d_left [] ?_ ?_ | exact rfl | exact Nat.le_of_ble_eq_true rfl | (refine Nat.le_of_eq ?_; simp [rows, seqI]; done) | refine call_go rfl rfl [] ?_ | (refine Hid.mk ?_; first | decide | omega | (simp <;> omega) | (intro e; subst e; omega) | (intro e; subst e; simp_all; done) | exact Prod.ext (by omega) (by omega))) <;> conv => whnf)
def tb3 : Nat → Int × Int × Int × Int
  | 0 => (31, 3, 0, 1)
  | 1 => (3, 1, 1, -10)
  | _ => (1, 0, -10, 31)
theorem inverse3_s : Spec ctx 188 [iv .i64 3] [] (iv .i64 21) [] := by
  refine spec_mk ctx_mixed ctx_enters 0 Tryz.func188 rfl rfl (Nat.le_of_ble_eq_true rfl) 0 rfl ?_; conv => whnf
  repeat' ((first | (with_reducible first | refine d_chk ?_ | refine Br.tt ?_ | refine Br.ff ?_ | refine Br.beq ?_ | refine Br.bne ?_ | refine Br.nt ?_ | refine Br.nf ?_ | refine d_wrap ?_ | refine d_rem ?_ | refine d_nat ?_ | refine d_get (by omega) ?_ | refine Br.yesd ?_ | refine Br.nod ?_ | refine Br.yesn ?_ | refine Br.nodn ?_ | refine d_le ?_ | refine d_lt ?_ | refine And.intro ?_ ?_ | exact trivial | exact .inr rfl | rfl | refine sc_int | refine sc_bt ?_ | refine sc_bf ?_ | refine sc_bb ?_ | refine sc_bh ?_ | refine sc_ih ?_) | with_reducible refine Br.dec (fun _ => ?_) (fun _ => ?_) | with_reducible refine Br.decn (fun _ => ?_) (fun _ => ?_) | with_reducible refine d_left [] ?_ ?_ | exact rfl | exact Nat.le_of_ble_eq_true rfl | (refine Nat.le_of_eq ?_; simp [rows, seqI]; done) | refine call_go rfl rfl [] ?_ | (refine Hid.mk ?_; first | decide | omega | (simp <;> omega) | (intro e; subst e; omega) | (intro e; subst e; simp_all; done) | exact Prod.ext (by omega) (by omega))) <;> conv => whnf)
  refine AW.loopP (fun i : Nat => ⟨[(3, iv .i64 (tb3 i).1), (4, iv .i64 (tb3 i).2.1), (5, iv .i64 (tb3 i).2.2.1), (6, iv .i64 (tb3 i).2.2.2)], [], 0⟩) (fun i => i ≤ 2) (fun i => 2 - i) 0 [] (d_sub _ ?_ ?_) (by omega) (fun i hi => ?_)
  · (conv => whnf)
    repeat' ((first | (with_reducible first | refine d_chk ?_ | refine Br.tt ?_ | refine Br.ff ?_ | refine Br.beq ?_ | refine Br.bne ?_ | refine Br.nt ?_ | refine Br.nf ?_ | refine d_wrap ?_ | refine d_rem ?_ | refine d_nat ?_ | refine d_get (by omega) ?_ | refine Br.yesd ?_ | refine Br.nod ?_ | refine Br.yesn ?_ | refine Br.nodn ?_ | refine d_le ?_ | refine d_lt ?_ | refine And.intro ?_ ?_ | exact trivial | exact .inr rfl | rfl | refine sc_int | refine sc_bt ?_ | refine sc_bf ?_ | refine sc_bb ?_ | refine sc_bh ?_ | refine sc_ih ?_) | with_reducible refine Br.dec (fun _ => ?_) (fun _ => ?_) | with_reducible refine Br.decn (fun _ => ?_) (fun _ => ?_) | with_reducible refine d_left [] ?_ ?_ | exact rfl | exact Nat.le_of_ble_eq_true rfl | (refine Nat.le_of_eq ?_; simp [rows, seqI]; done) | refine call_go rfl rfl [] ?_ | (refine Hid.mk ?_; first | decide | omega | (simp <;> omega) | (intro e; subst e; omega) | (intro e; subst e; simp_all; done) | exact Prod.ext (by omega) (by omega))) <;> conv => whnf)
  · (conv => whnf)
    repeat' ((first | (with_reducible first | refine d_chk ?_ | refine Br.tt ?_ | refine Br.ff ?_ | refine Br.beq ?_ | refine Br.bne ?_ | refine Br.nt ?_ | refine Br.nf ?_ | refine d_wrap ?_ | refine d_rem ?_ | refine d_nat ?_ | refine d_get (by omega) ?_ | refine Br.yesd ?_ | refine Br.nod ?_ | refine Br.yesn ?_ | refine Br.nodn ?_ | refine d_le ?_ | refine d_lt ?_ | refine And.intro ?_ ?_ | exact trivial | exact .inr rfl | rfl | refine sc_int | refine sc_bt ?_ | refine sc_bf ?_ | refine sc_bb ?_ | refine sc_bh ?_ | refine sc_ih ?_) | with_reducible refine Br.dec (fun _ => ?_) (fun _ => ?_) | with_reducible refine Br.decn (fun _ => ?_) (fun _ => ?_) | with_reducible refine d_left [] ?_ ?_ | exact rfl | exact Nat.le_of_ble_eq_true rfl | (refine Nat.le_of_eq ?_; simp [rows, seqI]; done) | refine call_go rfl rfl [] ?_ | (refine Hid.mk ?_; first | decide | omega | (simp <;> omega) | (intro e; subst e; omega) | (intro e; subst e; simp_all; done) | exact Prod.ext (by omega) (by omega))) <;> conv => whnf)
  have hc : i = 0 ∨ i = 1 ∨ i = 2 := by omega
  rcases hc with rfl | rfl | rfl
  · rw [show tb3 0 = (31, 3, 0, 1) from rfl]; dsimp only
    (conv => whnf)
    repeat' ((first | (with_reducible first | refine d_chk ?_ | refine Br.tt ?_ | refine Br.ff ?_ | refine Br.beq ?_ | refine Br.bne ?_ | refine Br.nt ?_ | refine Br.nf ?_ | refine d_wrap ?_ | refine d_rem ?_ | refine d_nat ?_ | refine d_get (by omega) ?_ | refine Br.yesd ?_ | refine Br.nod ?_ | refine Br.yesn ?_ | refine Br.nodn ?_ | refine d_le ?_ | refine d_lt ?_ | refine And.intro ?_ ?_ | exact trivial | exact .inr rfl | rfl | refine sc_int | refine sc_bt ?_ | refine sc_bf ?_ | refine sc_bb ?_ | refine sc_bh ?_ | refine sc_ih ?_) | refine callW0 (elementOf_s (-10) (by decide) (by decide)) rfl trivial ?_ | exact fun h => absurd h (by decide) | (refine ⟨10, by decide, ?_⟩) | refine d_end 1 [] (d_sub _ ?_ ?_) ?_ | with_reducible refine Br.dec (fun _ => ?_) (fun _ => ?_) | with_reducible refine Br.decn (fun _ => ?_) (fun _ => ?_) | with_reducible refine d_left [] ?_ ?_ | exact rfl | exact Nat.le_of_ble_eq_true rfl | (refine Nat.le_of_eq ?_; simp [rows, seqI]; done) | refine call_go rfl rfl [] ?_ | (refine Hid.mk ?_; first | decide | omega | (simp <;> omega) | (intro e; subst e; omega) | (intro e; subst e; simp_all; done) | exact Prod.ext (by omega) (by omega))) <;> conv => whnf)
  · rw [show tb3 1 = (3, 1, 1, -10) from rfl]; dsimp only
    (conv => whnf)
    repeat' ((first | (with_reducible first | refine d_chk ?_ | refine Br.tt ?_ | refine Br.ff ?_ | refine Br.beq ?_ | refine Br.bne ?_ | refine Br.nt ?_ | refine Br.nf ?_ | refine d_wrap ?_ | refine d_rem ?_ | refine d_nat ?_ | refine d_get (by omega) ?_ | refine Br.yesd ?_ | refine Br.nod ?_ | refine Br.yesn ?_ | refine Br.nodn ?_ | refine d_le ?_ | refine d_lt ?_ | refine And.intro ?_ ?_ | exact trivial | exact .inr rfl | rfl | refine sc_int | refine sc_bt ?_ | refine sc_bf ?_ | refine sc_bb ?_ | refine sc_bh ?_ | refine sc_ih ?_) | refine callW0 (elementOf_s (-10) (by decide) (by decide)) rfl trivial ?_ | exact fun h => absurd h (by decide) | (refine ⟨3, by decide, ?_⟩) | refine d_end 2 [] (d_sub _ ?_ ?_) ?_ | with_reducible refine Br.dec (fun _ => ?_) (fun _ => ?_) | with_reducible refine Br.decn (fun _ => ?_) (fun _ => ?_) | with_reducible refine d_left [] ?_ ?_ | exact rfl | exact Nat.le_of_ble_eq_true rfl | (refine Nat.le_of_eq ?_; simp [rows, seqI]; done) | refine call_go rfl rfl [] ?_ | (refine Hid.mk ?_; first | decide | omega | (simp <;> omega) | (intro e; subst e; omega) | (intro e; subst e; simp_all; done) | exact Prod.ext (by omega) (by omega))) <;> conv => whnf)
  · rw [show tb3 2 = (1, 0, -10, 31) from rfl]; dsimp only
    (conv => whnf)
    repeat' ((first | (with_reducible first | refine d_chk ?_ | refine Br.tt ?_ | refine Br.ff ?_ | refine Br.beq ?_ | refine Br.bne ?_ | refine Br.nt ?_ | refine Br.nf ?_ | refine d_wrap ?_ | refine d_rem ?_ | refine d_nat ?_ | refine d_get (by omega) ?_ | refine Br.yesd ?_ | refine Br.nod ?_ | refine Br.yesn ?_ | refine Br.nodn ?_ | refine d_le ?_ | refine d_lt ?_ | refine And.intro ?_ ?_ | exact trivial | exact .inr rfl | rfl | refine sc_int | refine sc_bt ?_ | refine sc_bf ?_ | refine sc_bb ?_ | refine sc_bh ?_ | refine sc_ih ?_) | refine callW0 (elementOf_s (-10) (by decide) (by decide)) rfl trivial ?_ | exact fun h => absurd h (by decide) | (refine ⟨0, by decide, ?_⟩) | refine d_end 3 [] (d_sub _ ?_ ?_) ?_ | with_reducible refine Br.dec (fun _ => ?_) (fun _ => ?_) | with_reducible refine Br.decn (fun _ => ?_) (fun _ => ?_) | with_reducible refine d_left [] ?_ ?_ | exact rfl | exact Nat.le_of_ble_eq_true rfl | (refine Nat.le_of_eq ?_; simp [rows, seqI]; done) | refine call_go rfl rfl [] ?_ | (refine Hid.mk ?_; first | decide | omega | (simp <;> omega) | (intro e; subst e; omega) | (intro e; subst e; simp_all; done) | exact Prod.ext (by omega) (by omega))) <;> conv => whnf)
def tb4 : Nat → Int × Int × Int × Int
  | 0 => (31, 4, 0, 1)
  | 1 => (4, 3, 1, -7)
  | 2 => (3, 1, -7, 8)
  | _ => (1, 0, 8, -31)
theorem inverse4_s : Spec ctx 188 [iv .i64 4] [] (iv .i64 8) [] := by
  refine spec_mk ctx_mixed ctx_enters 0 Tryz.func188 rfl rfl (Nat.le_of_ble_eq_true rfl) 0 rfl ?_; conv => whnf
  repeat' ((first | (with_reducible first | refine d_chk ?_ | refine Br.tt ?_ | refine Br.ff ?_ | refine Br.beq ?_ | refine Br.bne ?_ | refine Br.nt ?_ | refine Br.nf ?_ | refine d_wrap ?_ | refine d_rem ?_ | refine d_nat ?_ | refine d_get (by omega) ?_ | refine Br.yesd ?_ | refine Br.nod ?_ | refine Br.yesn ?_ | refine Br.nodn ?_ | refine d_le ?_ | refine d_lt ?_ | refine And.intro ?_ ?_ | exact trivial | exact .inr rfl | rfl | refine sc_int | refine sc_bt ?_ | refine sc_bf ?_ | refine sc_bb ?_ | refine sc_bh ?_ | refine sc_ih ?_) | with_reducible refine Br.dec (fun _ => ?_) (fun _ => ?_) | with_reducible refine Br.decn (fun _ => ?_) (fun _ => ?_) | with_reducible refine d_left [] ?_ ?_ | exact rfl | exact Nat.le_of_ble_eq_true rfl | (refine Nat.le_of_eq ?_; simp [rows, seqI]; done) | refine call_go rfl rfl [] ?_ | (refine Hid.mk ?_; first | decide | omega | (simp <;> omega) | (intro e; subst e; omega) | (intro e; subst e; simp_all; done) | exact Prod.ext (by omega) (by omega))) <;> conv => whnf)
  refine AW.loopP (fun i : Nat => ⟨[(3, iv .i64 (tb4 i).1), (4, iv .i64 (tb4 i).2.1), (5, iv .i64 (tb4 i).2.2.1), (6, iv .i64 (tb4 i).2.2.2)], [], 0⟩) (fun i => i ≤ 3) (fun i => 3 - i) 0 [] (d_sub _ ?_ ?_) (by omega) (fun i hi => ?_)
  · (conv => whnf)
    repeat' ((first | (with_reducible first | refine d_chk ?_ | refine Br.tt ?_ | refine Br.ff ?_ | refine Br.beq ?_ | refine Br.bne ?_ | refine Br.nt ?_ | refine Br.nf ?_ | refine d_wrap ?_ | refine d_rem ?_ | refine d_nat ?_ | refine d_get (by omega) ?_ | refine Br.yesd ?_ | refine Br.nod ?_ | refine Br.yesn ?_ | refine Br.nodn ?_ | refine d_le ?_ | refine d_lt ?_ | refine And.intro ?_ ?_ | exact trivial | exact .inr rfl | rfl | refine sc_int | refine sc_bt ?_ | refine sc_bf ?_ | refine sc_bb ?_ | refine sc_bh ?_ | refine sc_ih ?_) | with_reducible refine Br.dec (fun _ => ?_) (fun _ => ?_) | with_reducible refine Br.decn (fun _ => ?_) (fun _ => ?_) | with_reducible refine d_left [] ?_ ?_ | exact rfl | exact Nat.le_of_ble_eq_true rfl | (refine Nat.le_of_eq ?_; simp [rows, seqI]; done) | refine call_go rfl rfl [] ?_ | (refine Hid.mk ?_; first | decide | omega | (simp <;> omega) | (intro e; subst e; omega) | (intro e; subst e; simp_all; done) | exact Prod.ext (by omega) (by omega))) <;> conv => whnf)
  · (conv => whnf)
    repeat' ((first | (with_reducible first | refine d_chk ?_ | refine Br.tt ?_ | refine Br.ff ?_ | refine Br.beq ?_ | refine Br.bne ?_ | refine Br.nt ?_ | refine Br.nf ?_ | refine d_wrap ?_ | refine d_rem ?_ | refine d_nat ?_ | refine d_get (by omega) ?_ | refine Br.yesd ?_ | refine Br.nod ?_ | refine Br.yesn ?_ | refine Br.nodn ?_ | refine d_le ?_ | refine d_lt ?_ | refine And.intro ?_ ?_ | exact trivial | exact .inr rfl | rfl | refine sc_int | refine sc_bt ?_ | refine sc_bf ?_ | refine sc_bb ?_ | refine sc_bh ?_ | refine sc_ih ?_) | with_reducible refine Br.dec (fun _ => ?_) (fun _ => ?_) | with_reducible refine Br.decn (fun _ => ?_) (fun _ => ?_) | with_reducible refine d_left [] ?_ ?_ | exact rfl | exact Nat.le_of_ble_eq_true rfl | (refine Nat.le_of_eq ?_; simp [rows, seqI]; done) | refine call_go rfl rfl [] ?_ | (refine Hid.mk ?_; first | decide | omega | (simp <;> omega) | (intro e; subst e; omega) | (intro e; subst e; simp_all; done) | exact Prod.ext (by omega) (by omega))) <;> conv => whnf)
  have hc : i = 0 ∨ i = 1 ∨ i = 2 ∨ i = 3 := by omega
  rcases hc with rfl | rfl | rfl | rfl
  · rw [show tb4 0 = (31, 4, 0, 1) from rfl]; dsimp only
    (conv => whnf)
    repeat' ((first | (with_reducible first | refine d_chk ?_ | refine Br.tt ?_ | refine Br.ff ?_ | refine Br.beq ?_ | refine Br.bne ?_ | refine Br.nt ?_ | refine Br.nf ?_ | refine d_wrap ?_ | refine d_rem ?_ | refine d_nat ?_ | refine d_get (by omega) ?_ | refine Br.yesd ?_ | refine Br.nod ?_ | refine Br.yesn ?_ | refine Br.nodn ?_ | refine d_le ?_ | refine d_lt ?_ | refine And.intro ?_ ?_ | exact trivial | exact .inr rfl | rfl | refine sc_int | refine sc_bt ?_ | refine sc_bf ?_ | refine sc_bb ?_ | refine sc_bh ?_ | refine sc_ih ?_) | refine callW0 (elementOf_s (8) (by decide) (by decide)) rfl trivial ?_ | exact fun h => absurd h (by decide) | (refine ⟨7, by decide, ?_⟩) | refine d_end 1 [] (d_sub _ ?_ ?_) ?_ | with_reducible refine Br.dec (fun _ => ?_) (fun _ => ?_) | with_reducible refine Br.decn (fun _ => ?_) (fun _ => ?_) | with_reducible refine d_left [] ?_ ?_ | exact rfl | exact Nat.le_of_ble_eq_true rfl | (refine Nat.le_of_eq ?_; simp [rows, seqI]; done) | refine call_go rfl rfl [] ?_ | (refine Hid.mk ?_; first | decide | omega | (simp <;> omega) | (intro e; subst e; omega) | (intro e; subst e; simp_all; done) | exact Prod.ext (by omega) (by omega))) <;> conv => whnf)
  · rw [show tb4 1 = (4, 3, 1, -7) from rfl]; dsimp only
    (conv => whnf)
    repeat' ((first | (with_reducible first | refine d_chk ?_ | refine Br.tt ?_ | refine Br.ff ?_ | refine Br.beq ?_ | refine Br.bne ?_ | refine Br.nt ?_ | refine Br.nf ?_ | refine d_wrap ?_ | refine d_rem ?_ | refine d_nat ?_ | refine d_get (by omega) ?_ | refine Br.yesd ?_ | refine Br.nod ?_ | refine Br.yesn ?_ | refine Br.nodn ?_ | refine d_le ?_ | refine d_lt ?_ | refine And.intro ?_ ?_ | exact trivial | exact .inr rfl | rfl | refine sc_int | refine sc_bt ?_ | refine sc_bf ?_ | refine sc_bb ?_ | refine sc_bh ?_ | refine sc_ih ?_) | refine callW0 (elementOf_s (8) (by decide) (by decide)) rfl trivial ?_ | exact fun h => absurd h (by decide) | (refine ⟨1, by decide, ?_⟩) | refine d_end 2 [] (d_sub _ ?_ ?_) ?_ | with_reducible refine Br.dec (fun _ => ?_) (fun _ => ?_) | with_reducible refine Br.decn (fun _ => ?_) (fun _ => ?_) | with_reducible refine d_left [] ?_ ?_ | exact rfl | exact Nat.le_of_ble_eq_true rfl | (refine Nat.le_of_eq ?_; simp [rows, seqI]; done) | refine call_go rfl rfl [] ?_ | (refine Hid.mk ?_; first | decide | omega | (simp <;> omega) | (intro e; subst e; omega) | (intro e; subst e; simp_all; done) | exact Prod.ext (by omega) (by omega))) <;> conv => whnf)
  · rw [show tb4 2 = (3, 1, -7, 8) from rfl]; dsimp only
    (conv => whnf)
    repeat' ((first | (with_reducible first | refine d_chk ?_ | refine Br.tt ?_ | refine Br.ff ?_ | refine Br.beq ?_ | refine Br.bne ?_ | refine Br.nt ?_ | refine Br.nf ?_ | refine d_wrap ?_ | refine d_rem ?_ | refine d_nat ?_ | refine d_get (by omega) ?_ | refine Br.yesd ?_ | refine Br.nod ?_ | refine Br.yesn ?_ | refine Br.nodn ?_ | refine d_le ?_ | refine d_lt ?_ | refine And.intro ?_ ?_ | exact trivial | exact .inr rfl | rfl | refine sc_int | refine sc_bt ?_ | refine sc_bf ?_ | refine sc_bb ?_ | refine sc_bh ?_ | refine sc_ih ?_) | refine callW0 (elementOf_s (8) (by decide) (by decide)) rfl trivial ?_ | exact fun h => absurd h (by decide) | (refine ⟨3, by decide, ?_⟩) | refine d_end 3 [] (d_sub _ ?_ ?_) ?_ | with_reducible refine Br.dec (fun _ => ?_) (fun _ => ?_) | with_reducible refine Br.decn (fun _ => ?_) (fun _ => ?_) | with_reducible refine d_left [] ?_ ?_ | exact rfl | exact Nat.le_of_ble_eq_true rfl | (refine Nat.le_of_eq ?_; simp [rows, seqI]; done) | refine call_go rfl rfl [] ?_ | (refine Hid.mk ?_; first | decide | omega | (simp <;> omega) | (intro e; subst e; omega) | (intro e; subst e; simp_all; done) | exact Prod.ext (by omega) (by omega))) <;> conv => whnf)
  · rw [show tb4 3 = (1, 0, 8, -31) from rfl]; dsimp only
    (conv => whnf)
    repeat' ((first | (with_reducible first | refine d_chk ?_ | refine Br.tt ?_ | refine Br.ff ?_ | refine Br.beq ?_ | refine Br.bne ?_ | refine Br.nt ?_ | refine Br.nf ?_ | refine d_wrap ?_ | refine d_rem ?_ | refine d_nat ?_ | refine d_get (by omega) ?_ | refine Br.yesd ?_ | refine Br.nod ?_ | refine Br.yesn ?_ | refine Br.nodn ?_ | refine d_le ?_ | refine d_lt ?_ | refine And.intro ?_ ?_ | exact trivial | exact .inr rfl | rfl | refine sc_int | refine sc_bt ?_ | refine sc_bf ?_ | refine sc_bb ?_ | refine sc_bh ?_ | refine sc_ih ?_) | refine callW0 (elementOf_s (8) (by decide) (by decide)) rfl trivial ?_ | exact fun h => absurd h (by decide) | (refine ⟨0, by decide, ?_⟩) | refine d_end 4 [] (d_sub _ ?_ ?_) ?_ | with_reducible refine Br.dec (fun _ => ?_) (fun _ => ?_) | with_reducible refine Br.decn (fun _ => ?_) (fun _ => ?_) | with_reducible refine d_left [] ?_ ?_ | exact rfl | exact Nat.le_of_ble_eq_true rfl | (refine Nat.le_of_eq ?_; simp [rows, seqI]; done) | refine call_go rfl rfl [] ?_ | (refine Hid.mk ?_; first | decide | omega | (simp <;> omega) | (intro e; subst e; omega) | (intro e; subst e; simp_all; done) | exact Prod.ext (by omega) (by omega))) <;> conv => whnf)
end Go.Proofs.YtdjoodbidcncaaaGreatDoor.AW

/- The polynomial through values: divided differences. -/
namespace Go.Proofs.YtdjoodbidcncaaaGreatDoor.AW
open Go Go.Conc
set_option maxRecDepth 10000
def einv : Nat → Int
  | 1 => 1
  | 2 => 16
  | 3 => 21
  | _ => 8
theorem einv_ok : ∀ s, okE (einv s)
  | 0 => by decide
  | 1 => by decide
  | 2 => by decide
  | 3 => by decide
  | n + 4 => by show okE 8; decide
theorem inverse_s (s : Nat) (h : 1 ≤ s ∧ s ≤ 4) : Spec ctx 188 [iv .i64 s] [] (iv .i64 (einv s)) [] := by
  have hc : s = 1 ∨ s = 2 ∨ s = 3 ∨ s = 4 := by omega
  rcases hc with rfl | rfl | rfl | rfl
  · exact inverse1_s
  · exact inverse2_s
  · exact inverse3_s
  · exact inverse4_s
/-- values, and zeros behind them -/
def dd0 (v : List Int) (i : Nat) : List Int := v.take i ++ List.replicate (9 - i) 0
def ddI (m s : Nat) (d : List Int) : Nat → List Int
  | 0 => d
  | j + 1 => (ddI m s d j).set (m - 1 - j) (((((ddI m s d j).getD (m - 1 - j) 0 - (ddI m s d j).getD (m - 2 - j) 0) % 31) * einv s) % 31)
def ddO (m : Nat) (d : List Int) : Nat → List Int
  | 0 => d
  | s + 1 => ddI m (s + 1) (ddO m d s) (m - (s + 1))
def nkI (m i : Nat) (o : List Int) : Nat → List Int
  | 0 => o
  | j + 1 => (nkI m i o j).set (m - 1 - j) (if 0 < m - 1 - j then (((nkI m i o j).getD (m - 1 - j) 0 * ((-(i : Int)) % 31)) % 31 + (nkI m i o j).getD (m - 2 - j) 0) % 31 else ((nkI m i o j).getD (m - 1 - j) 0 * ((-(i : Int)) % 31)) % 31)
def nkO (m : Nat) (d : List Int) : Nat → List Int
  | 0 => List.replicate m 0
  | j + 1 => (nkI m (m - 1 - j) (nkO m d j) m).set 0 (((nkI m (m - 1 - j) (nkO m d j) m).getD 0 0 + d.getD (m - 1 - j) 0) % 31)
def ithr (v : List Int) : List Int := nkO v.length (ddO v.length (dd0 v v.length) (v.length - 1)) v.length
theorem dd0_len (v : List Int) (i : Nat) (h : i ≤ v.length) (hl : v.length ≤ 9) : (dd0 v i).length = 9 := by simp [dd0]; omega
theorem ddI_len (m s : Nat) (d : List Int) : ∀ j, (ddI m s d j).length = d.length
  | 0 => rfl
  | j + 1 => by simp [ddI, ddI_len m s d j]
theorem ddO_len (m : Nat) (d : List Int) : ∀ s, (ddO m d s).length = d.length
  | 0 => rfl
  | s + 1 => by simp [ddO, ddI_len, ddO_len m d s]
theorem nkI_len (m i : Nat) (o : List Int) : ∀ j, (nkI m i o j).length = o.length
  | 0 => rfl
  | j + 1 => by simp [nkI, nkI_len m i o j]
theorem nkO_len (m : Nat) (d : List Int) : ∀ j, (nkO m d j).length = m
  | 0 => by simp [nkO]
  | j + 1 => by simp [nkO, nkI_len, nkO_len m d j]
theorem allE_app2 {a b : List Int} (h : allE a) (g : allE b) : allE (a ++ b) := fun x hx => (List.mem_append.1 hx).elim (h x) (g x)
theorem dd0_ok {v : List Int} (hv : allE v) (i : Nat) : allE (dd0 v i) := allE_app2 (fun x hx => hv x (List.mem_of_mem_take hx)) (allE_rep _)
theorem ddI_ok {m s : Nat} {d : List Int} (h : allE d) : ∀ j, allE (ddI m s d j)
  | 0 => h
  | j + 1 => allE_set (ddI_ok h j) (emod_ok _)
theorem ddO_ok {m : Nat} {d : List Int} (h : allE d) : ∀ s, allE (ddO m d s)
  | 0 => h
  | s + 1 => ddI_ok (ddO_ok h s) _
theorem nkI_ok {m i : Nat} {o : List Int} (h : allE o) : ∀ j, allE (nkI m i o j)
  | 0 => h
  | j + 1 => allE_set (nkI_ok h j) (by split <;> exact emod_ok _)
theorem nkO_ok {m : Nat} {d : List Int} : ∀ j, allE (nkO m d j)
  | 0 => allE_rep _
  | j + 1 => allE_set (nkI_ok (nkO_ok j) _) (emod_ok _)
theorem rows_set' {l : List Int} {i : Nat} {v : Int} : (rows ci l).set i [.sc (.int .i64 v)] = rows ci (l.set i v) := by simp [rows, List.map_set]
theorem dd0_step {v : List Int} {i : Nat} (h : i < v.length) (hl : v.length ≤ 9) : (dd0 v i).set i v[i] = dd0 v (i + 1) := by
  unfold dd0
  rw [List.take_succ_eq_append_getElem h, show 9 - i = (9 - (i + 1)) + 1 by omega, List.replicate_succ]
  rw [List.set_append_right _ _ (by rw [List.length_take]; omega)]
  rw [List.length_take, Nat.min_eq_left (by omega), Nat.sub_self]
  simp only [List.set_cons_zero, List.append_assoc, List.cons_append, List.nil_append]
theorem d_st {α : Type} {g : α → List CV} {l : List α} {i n : Nat} {K : List CV → Prop} (h : i < l.length) (h2 : ∀ x, n ≤ (g x).length) (k : K (g l[i])) : ∃ e, (rows g l)[i]? = some e ∧ n ≤ e.length ∧ K e := ⟨_, rows_get h, h2 _, k⟩
set_option maxHeartbeats 1000000 in
theorem iThrough_s (v : List Int) (hv : allE v) (hl : 2 ≤ v.length ∧ v.length ≤ 5) : Spec ctx 137 [sl v none] [] (.own 0 1 0 v.length (some v.length)) [(0, some (.row 1 (rows ci (ithr v))))] := by
  have la := rows_len ci v
  obtain ⟨m, hm⟩ : ∃ m, m = v.length := ⟨_, rfl⟩
  refine spec_mk ctx_mixed ctx_enters 9 Tryz.func137 rfl rfl (Nat.le_of_ble_eq_true rfl) 0 rfl ?_; conv => whnf
  repeat' ((first | (with_reducible first | refine d_chk ?_ | refine Br.tt ?_ | refine Br.ff ?_ | refine Br.beq ?_ | refine Br.bne ?_ | refine Br.nt ?_ | refine Br.nf ?_ | refine d_wrap ?_ | refine d_rem ?_ | refine d_nat ?_ | refine d_get (by omega) ?_ | refine Br.yesd ?_ | refine Br.nod ?_ | refine Br.yesn ?_ | refine Br.nodn ?_ | refine d_le ?_ | refine d_lt ?_ | refine And.intro ?_ ?_ | exact trivial | exact .inr rfl | rfl | refine sc_int | refine sc_bt ?_ | refine sc_bf ?_ | refine sc_bb ?_ | refine sc_bh ?_ | refine sc_ih ?_) | with_reducible refine Br.dec (fun _ => ?_) (fun _ => ?_) | with_reducible refine Br.decn (fun _ => ?_) (fun _ => ?_) | with_reducible refine d_left [] ?_ ?_ | exact rfl | exact Nat.le_of_ble_eq_true rfl | (refine Nat.le_of_eq ?_; simp [rows, seqI]; done) | refine call_go rfl rfl [] ?_ | (refine Hid.mk ?_; first | decide | omega | (simp <;> omega) | (intro e; subst e; omega) | (intro e; subst e; simp_all; done) | exact Prod.ext (by omega) (by omega))) <;> conv => whnf)
  refine AW.loopP (fun i : Nat => ⟨[(0, sl v none), (3, .ptr 0 1 0 0), (12, sl v none), (13, iv .i64 v.length), (14, iv .i64 i)], [(0, some (.row 1 (rows ci (dd0 v i))))], 1⟩) (fun i => i ≤ v.length) (fun i => v.length - i) 0 [(0, 0)] (d_sub _ ?_ ?_) (by omega) (fun i hi => ?_) <;> (conv => whnf) <;>
  repeat' ((first | (with_reducible first | refine d_chk ?_ | refine Br.tt ?_ | refine Br.ff ?_ | refine Br.beq ?_ | refine Br.bne ?_ | refine Br.nt ?_ | refine Br.nf ?_ | refine d_wrap ?_ | refine d_rem ?_ | refine d_nat ?_ | refine d_get (by omega) ?_ | refine Br.yesd ?_ | refine Br.nod ?_ | refine Br.yesn ?_ | refine Br.nodn ?_ | refine d_le ?_ | refine d_lt ?_ | refine And.intro ?_ ?_ | exact trivial | exact .inr rfl | rfl | refine sc_int | refine sc_bt ?_ | refine sc_bf ?_ | refine sc_bb ?_ | refine sc_bh ?_ | refine sc_ih ?_) | refine d_st (by rw [dd0_len v _ (by omega) (by omega)]; omega) (fun _ => Nat.le_refl _) ?_ | refine d_end (i+1) [(0, 0)] (d_sub _ ?_ ?_) ?_ | with_reducible refine Br.dec (fun _ => ?_) (fun _ => ?_) | with_reducible refine Br.decn (fun _ => ?_) (fun _ => ?_) | with_reducible refine d_left [] ?_ ?_ | exact rfl | exact Nat.le_of_ble_eq_true rfl | (refine Nat.le_of_eq ?_; simp [rows, seqI]; done) | refine call_go rfl rfl [] ?_ | (refine Hid.mk ?_; first | decide | omega | (simp <;> omega) | (intro e; subst e; omega) | (intro e; subst e; simp_all; done) | exact Prod.ext (by omega) (by omega))) <;> conv => whnf)
  · show (rows ci (dd0 v i)).set (0 + i) (ci v[i]) = _
    rw [Nat.zero_add]
    exact rows_set'.trans (by rw [dd0_step (by omega) (by omega)])
  obtain rfl : i = v.length := by omega
  have l0 := dd0_len v v.length (Nat.le_refl _) (by omega)
  have k0 := dd0_ok hv v.length
  refine AW.loopP2 (fun (s : Nat) (_ : Unit) => ⟨[(0, sl v none), (3, .ptr 0 1 0 0), (6, iv .i64 (s + 1))], [(0, some (.row 1 (rows ci (ddO v.length (dd0 v v.length) s))))], 1⟩) (fun s _ => s ≤ v.length - 1) (fun s _ => v.length - s) 0 () [(0, 0)] (d_sub _ ?_ ?_) (by omega) (fun s _ hs => ?_) <;> (conv => whnf) <;>
  repeat' ((first | (with_reducible first | refine d_chk ?_ | refine Br.tt ?_ | refine Br.ff ?_ | refine Br.beq ?_ | refine Br.bne ?_ | refine Br.nt ?_ | refine Br.nf ?_ | refine d_wrap ?_ | refine d_rem ?_ | refine d_nat ?_ | refine d_get (by omega) ?_ | refine Br.yesd ?_ | refine Br.nod ?_ | refine Br.yesn ?_ | refine Br.nodn ?_ | refine d_le ?_ | refine d_lt ?_ | refine And.intro ?_ ?_ | exact trivial | exact .inr rfl | rfl | refine sc_int | refine sc_bt ?_ | refine sc_bf ?_ | refine sc_bb ?_ | refine sc_bh ?_ | refine sc_ih ?_) | refine d_end2 (s+1) () [(0, 0)] (d_sub _ ?_ ?_) ?_ | with_reducible refine Br.dec (fun _ => ?_) (fun _ => ?_) | with_reducible refine Br.decn (fun _ => ?_) (fun _ => ?_) | with_reducible refine d_left [] ?_ ?_ | exact rfl | exact Nat.le_of_ble_eq_true rfl | (refine Nat.le_of_eq ?_; simp [rows, seqI]; done) | refine call_go rfl rfl [] ?_ | (refine Hid.mk ?_; first | decide | omega | (simp <;> omega) | (intro e; subst e; omega) | (intro e; subst e; simp_all; done) | exact Prod.ext (by omega) (by omega))) <;> conv => whnf)
  · have lo := (ddO_len v.length (dd0 v v.length) s).trans l0
    have ko := ddO_ok (m := v.length) k0 s
    refine AW.loopP3 (fun (j : Nat) (_ : Unit) (_ : Unit) => ⟨[(0, sl v none), (3, .ptr 0 1 0 0), (6, iv .i64 (s + 1)), (7, iv .i64 (v.length - 1 - j))], [(0, some (.row 1 (rows ci (ddI v.length (s + 1) (ddO v.length (dd0 v v.length) s) j))))], 1⟩) (fun j _ _ => j + s + 1 ≤ v.length) (fun j _ _ => v.length - j) 0 () () [(0, 0)] (d_sub _ ?_ ?_) (by omega) (fun j _ _ hj => ?_) <;> (conv => whnf) <;>
    repeat' ((first | (with_reducible first | refine d_chk ?_ | refine Br.tt ?_ | refine Br.ff ?_ | refine Br.beq ?_ | refine Br.bne ?_ | refine Br.nt ?_ | refine Br.nf ?_ | refine d_wrap ?_ | refine d_rem ?_ | refine d_nat ?_ | refine d_get (by omega) ?_ | refine Br.yesd ?_ | refine Br.nod ?_ | refine Br.yesn ?_ | refine Br.nodn ?_ | refine d_le ?_ | refine d_lt ?_ | refine And.intro ?_ ?_ | exact trivial | exact .inr rfl | rfl | refine sc_int | refine sc_bt ?_ | refine sc_bf ?_ | refine sc_bb ?_ | refine sc_bh ?_ | refine sc_ih ?_) | refine d_end3 (j+1) () () [(0, 0)] (d_sub _ ?_ ?_) ?_ | refine d_end2 (s+1) () [(0, 0)] (d_sub _ ?_ ?_) ?_ | (refine ⟨v.length - 1 - j, by omega, ?_⟩) | (refine ⟨v.length - 2 - j, by omega, ?_⟩) | refine d_get (by rw [ddI_len, lo]; omega) ?_ | refine d_st (by rw [ddI_len, lo]; omega) (fun _ => Nat.le_refl _) ?_ | refine callW0 (minus_s _ _ (allE_get (ddI_ok ko j) _) (allE_get (ddI_ok ko j) _)) rfl trivial ?_ | refine callW0 (inverse_s (s + 1) (by omega)) rfl trivial ?_ | refine callW0 (times_s _ _ (emod_ok _) (einv_ok _)) rfl trivial ?_ | with_reducible refine Br.dec (fun _ => ?_) (fun _ => ?_) | with_reducible refine Br.decn (fun _ => ?_) (fun _ => ?_) | with_reducible refine d_left [] ?_ ?_ | exact rfl | exact Nat.le_of_ble_eq_true rfl | (refine Nat.le_of_eq ?_; simp [rows, seqI]; done) | refine call_go rfl rfl [] ?_ | (refine Hid.mk ?_; first | decide | omega | (simp <;> omega) | (intro e; subst e; omega) | (intro e; subst e; simp_all; done) | exact Prod.ext (by omega) (by omega))) <;> conv => whnf)
    · show (rows ci _).set (0 + _) (ci _) = _
      simp only [Nat.zero_add, ddI]
      rw [getD_get (by rw [ddI_len, lo]; omega), getD_get (by rw [ddI_len, lo]; omega)]
      exact rows_set'
    · obtain rfl : j = v.length - (s + 1) := by omega
      rfl
  obtain rfl : s = v.length - 1 := by omega
  have ko := ddO_ok (m := v.length) k0 (v.length - 1)
  have lo := (ddO_len v.length (dd0 v v.length) (v.length - 1)).trans l0
  obtain ⟨d, hd⟩ : ∃ d, d = ddO v.length (dd0 v v.length) (v.length - 1) := ⟨_, rfl⟩
  rw [← hd] at ko lo ⊢
  refine AW.loopP2 (fun (s : Nat) (_ : Unit) => ⟨[(0, sl v none), (3, .ptr 0 1 0 0), (8, .own 1 1 0 v.length (some v.length)), (9, iv .i64 (v.length - 1 - s))], [(0, some (.row 1 (rows ci d))), (1, some (.row 1 (rows ci (nkO v.length d s))))], 2⟩) (fun s _ => s ≤ v.length) (fun s _ => v.length - s) 0 () [(0, 0), (1, 1)] (d_sub _ ?_ ?_) (by omega) (fun s _ hs => ?_) <;> (conv => whnf) <;>
  repeat' ((first | (with_reducible first | refine d_chk ?_ | refine Br.tt ?_ | refine Br.ff ?_ | refine Br.beq ?_ | refine Br.bne ?_ | refine Br.nt ?_ | refine Br.nf ?_ | refine d_wrap ?_ | refine d_rem ?_ | refine d_nat ?_ | refine d_get (by omega) ?_ | refine Br.yesd ?_ | refine Br.nod ?_ | refine Br.yesn ?_ | refine Br.nodn ?_ | refine d_le ?_ | refine d_lt ?_ | refine And.intro ?_ ?_ | exact trivial | exact .inr rfl | rfl | refine sc_int | refine sc_bt ?_ | refine sc_bf ?_ | refine sc_bb ?_ | refine sc_bh ?_ | refine sc_ih ?_) | refine d_end2 (s+1) () [(0, 0), (1, 1)] (d_sub _ ?_ ?_) ?_ | with_reducible refine d_left [(0, 1)] ?_ ?_ | with_reducible refine Br.dec (fun _ => ?_) (fun _ => ?_) | with_reducible refine Br.decn (fun _ => ?_) (fun _ => ?_) | with_reducible refine d_left [] ?_ ?_ | exact rfl | exact Nat.le_of_ble_eq_true rfl | (refine Nat.le_of_eq ?_; simp [rows, seqI]; done) | refine call_go rfl rfl [] ?_ | (refine Hid.mk ?_; first | decide | omega | (simp <;> omega) | (intro e; subst e; omega) | (intro e; subst e; simp_all; done) | exact Prod.ext (by omega) (by omega))) <;> conv => whnf)
  · exact la
  · exact .inr (by rw [la])
  · rw [la]
    show List.replicate v.length (ci 0) = rows ci (List.replicate v.length 0)
    simp [rows]
  · have lk := nkO_len v.length d s
    refine AW.loopP3 (fun (j : Nat) (_ : Unit) (_ : Unit) => ⟨[(0, sl v none), (3, .ptr 0 1 0 0), (8, .own 1 1 0 v.length (some v.length)), (9, iv .i64 (v.length - 1 - s)), (10, iv .i64 (v.length - 1 - j))], [(0, some (.row 1 (rows ci d))), (1, some (.row 1 (rows ci (nkI v.length (v.length - 1 - s) (nkO v.length d s) j))))], 2⟩) (fun j _ _ => j ≤ v.length) (fun j _ _ => v.length - j) 0 () () [(0, 0), (1, 1)] (d_sub _ ?_ ?_) (by omega) (fun j _ _ hj => ?_) <;> (conv => whnf) <;>
    repeat' ((first | (with_reducible first | refine d_chk ?_ | refine Br.tt ?_ | refine Br.ff ?_ | refine Br.beq ?_ | refine Br.bne ?_ | refine Br.nt ?_ | refine Br.nf ?_ | refine d_wrap ?_ | refine d_rem ?_ | refine d_nat ?_ | refine d_get (by omega) ?_ | refine Br.yesd ?_ | refine Br.nod ?_ | refine Br.yesn ?_ | refine Br.nodn ?_ | refine d_le ?_ | refine d_lt ?_ | refine And.intro ?_ ?_ | exact trivial | exact .inr rfl | rfl | refine sc_int | refine sc_bt ?_ | refine sc_bf ?_ | refine sc_bb ?_ | refine sc_bh ?_ | refine sc_ih ?_) | refine d_end3 (j+1) () () [(0, 0), (1, 1)] (d_sub _ ?_ ?_) ?_ | refine d_end2 (s+1) () [(0, 0), (1, 1)] (d_sub _ ?_ ?_) ?_ | (refine ⟨v.length - 1 - j, by omega, ?_⟩) | (refine ⟨v.length - 2 - j, by omega, ?_⟩) | (refine ⟨v.length - 1 - s, by omega, ?_⟩) | refine d_get (by rw [nkI_len, lk]; omega) ?_ | refine d_get (by rw [lo]; omega) ?_ | refine d_st (by rw [nkI_len, lk]; omega) (fun _ => Nat.le_refl _) ?_ | refine callW0 (elementOf_s _ (by omega) (by omega)) rfl trivial ?_ | refine callW0 (times_s _ _ (allE_get (nkI_ok (nkO_ok s) j) _) (emod_ok _)) rfl trivial ?_ | refine callW0 (plus_s _ _ (emod_ok _) (allE_get (nkI_ok (nkO_ok s) j) _)) rfl trivial ?_ | refine callW0 (plus_s _ _ (allE_get (nkI_ok (nkO_ok s) j) _) (allE_get ko _)) rfl trivial ?_ | with_reducible refine Br.dec (fun _ => ?_) (fun _ => ?_) | with_reducible refine Br.decn (fun _ => ?_) (fun _ => ?_) | with_reducible refine d_left [] ?_ ?_ | exact rfl | exact Nat.le_of_ble_eq_true rfl | (refine Nat.le_of_eq ?_; simp [rows, seqI]; done) | refine call_go rfl rfl [] ?_ | (refine Hid.mk ?_; first | decide | omega | (simp <;> omega) | (intro e; subst e; omega) | (intro e; subst e; simp_all; done) | exact Prod.ext (by omega) (by omega))) <;> conv => whnf)
    · have e : (0 - ((v.length : Int) - 1 - s)) = -((v.length - 1 - s : Nat) : Int) := by omega
      show (rows ci _).set (0 + _) (ci _) = _
      simp only [Nat.zero_add, nkI]
      rw [if_pos (by omega), getD_get (by rw [nkI_len, lk]; omega), getD_get (by rw [nkI_len, lk]; omega), e]
      exact rows_set'
    · have e : (0 - ((v.length : Int) - 1 - s)) = -((v.length - 1 - s : Nat) : Int) := by omega
      show (rows ci _).set (0 + _) (ci _) = _
      simp only [Nat.zero_add, nkI]
      rw [if_neg (by omega), getD_get (by rw [nkI_len, lk]; omega), e]
      exact rows_set'
    · obtain rfl : j = v.length := by omega
      have e : v.length - 1 - v.length = 0 := by omega
      show (rows ci _).set (0 + _) (ci _) = _
      simp only [Nat.zero_add, nkO, e]
      rw [getD_get (by rw [nkI_len, lk]; omega), getD_get (by rw [lo]; omega)]
      exact rows_set'
  · obtain rfl : s = v.length := by omega
    rw [hd]; rfl
end Go.Proofs.YtdjoodbidcncaaaGreatDoor.AW

/- The polynomial through values is Lagrange's. -/
namespace Go.Proofs.YtdjoodbidcncaaaGreatDoor.AW
open Go Go.Conc
set_option maxRecDepth 10000
theorem s1_ (a b : Int) : (a % 31 + b) % 31 = (a + b) % 31 := by omega
theorem s2_ (a b : Int) : (a + b % 31) % 31 = (a + b) % 31 := by omega
theorem s3_ (a b : Int) : (a % 31 - b) % 31 = (a - b) % 31 := by omega
theorem s4_ (a b : Int) : (a - b % 31) % 31 = (a - b) % 31 := by omega
theorem s5_ (a b : Int) : (a % 31 * b) % 31 = (a * b) % 31 := by rw [Int.mul_emod, Int.emod_emod, ← Int.mul_emod]
theorem s6_ (a b : Int) : (a * (b % 31)) % 31 = (a * b) % 31 := by rw [Int.mul_emod, Int.emod_emod, ← Int.mul_emod]
theorem horner_cons (x c : Int) (l : List Int) : horner x (c :: l) = ((horner x l * x) % 31 + c) % 31 := rfl
theorem horner_nil (x : Int) : horner x [] = 0 := rfl
theorem thr2 (x a b : Int) : horner x (ithr [a, b]) = ((1 - x) * a + x * b) % 31 := by
  conv => lhs; arg 2; simp [ithr, nkO, nkI, ddO, ddI, dd0, einv, List.replicate_succ, s1_, s2_, s3_, s4_, s5_, s6_]
  simp only [horner_cons, horner_nil, s1_, s2_, s3_, s4_, s5_, s6_]
  congr 1
  grind
set_option maxHeartbeats 2000000 in
theorem thr4 (x a b c d : Int) : horner x (ithr [a, b, c, d]) = ((1 - x + 16 * (x * (x + 30)) - 336 * (x * (x + 30) * (x + 29))) * a + (x - 32 * (x * (x + 30)) + 1008 * (x * (x + 30) * (x + 29))) * b + (16 * (x * (x + 30)) - 1008 * (x * (x + 30) * (x + 29))) * c + 336 * (x * (x + 30) * (x + 29)) * d) % 31 := by
  conv => lhs; arg 2; simp [ithr, nkO, nkI, ddO, ddI, dd0, einv, List.replicate_succ, s1_, s2_, s3_, s4_, s5_, s6_]
  simp only [horner_cons, horner_nil, s1_, s2_, s3_, s4_, s5_, s6_]
  congr 1
  grind
set_option maxHeartbeats 4000000 in
theorem thr5 (x a b c d e : Int) : horner x (ithr [a, b, c, d, e]) = ((1 - x + 16 * (x * (x + 30)) - 336 * (x * (x + 30) * (x + 29)) + 2688 * (x * (x + 30) * (x + 29) * (x + 28))) * a + (x - 32 * (x * (x + 30)) + 1008 * (x * (x + 30) * (x + 29)) - 10752 * (x * (x + 30) * (x + 29) * (x + 28))) * b + (16 * (x * (x + 30)) - 1008 * (x * (x + 30) * (x + 29)) + 16128 * (x * (x + 30) * (x + 29) * (x + 28))) * c + (336 * (x * (x + 30) * (x + 29)) - 10752 * (x * (x + 30) * (x + 29) * (x + 28))) * d + 2688 * (x * (x + 30) * (x + 29) * (x + 28)) * e) % 31 := by
  conv => lhs; arg 2; simp [ithr, nkO, nkI, ddO, ddI, dd0, einv, List.replicate_succ, s1_, s2_, s3_, s4_, s5_, s6_]
  simp only [horner_cons, horner_nil, s1_, s2_, s3_, s4_, s5_, s6_]
  congr 1
  grind
def LC (m j : Nat) (x : Int) : Int := (l2line m x m).getD j 0
theorem eq31 {K C : Int} (h : K % 31 = C % 31) : ∃ q, K = C + 31 * q := ⟨K / 31 - C / 31, by omega⟩
theorem lc2 : ∀ x : Fin 31, (1 - ((x.val : Nat) : Int)) % 31 = LC 2 0 x.val % 31 ∧ ((x.val : Nat) : Int) % 31 = LC 2 1 x.val % 31 := by decide +kernel
theorem comb2 {K0 K1 C0 C1 : Int} (a b : Int) (h0 : K0 % 31 = C0 % 31) (h1 : K1 % 31 = C1 % 31) : (K0 * a + K1 * b) % 31 = ((0 + C0 * a) % 31 + C1 * b) % 31 := by
  obtain ⟨q0, rfl⟩ := eq31 h0
  obtain ⟨q1, rfl⟩ := eq31 h1
  simp only [s1_]
  have e : (C0 + 31 * q0) * a + (C1 + 31 * q1) * b = (0 + C0 * a + C1 * b) + 31 * (q0 * a + q1 * b) := by grind
  rw [e, Int.add_mul_emod_self_left]
theorem lag2 (x : Int) (hx : okE x) (a b : Int) : horner x (ithr [a, b]) = l13dot (l2line 2 x 2) [a, b] 2 := by
  have h := lc2 ⟨x.toNat, by have := hx.1; have := hx.2; omega⟩
  simp only [Int.toNat_of_nonneg hx.1] at h
  obtain ⟨h0, h1⟩ := h
  exact (thr2 x a b).trans (comb2 a b h0 h1)
theorem lc4 : ∀ x : Fin 31, (1 - ((x.val : Nat) : Int) + 16 * (((x.val : Nat) : Int) * (((x.val : Nat) : Int) + 30)) - 336 * (((x.val : Nat) : Int) * (((x.val : Nat) : Int) + 30) * (((x.val : Nat) : Int) + 29))) % 31 = LC 4 0 x.val % 31 ∧ (((x.val : Nat) : Int) - 32 * (((x.val : Nat) : Int) * (((x.val : Nat) : Int) + 30)) + 1008 * (((x.val : Nat) : Int) * (((x.val : Nat) : Int) + 30) * (((x.val : Nat) : Int) + 29))) % 31 = LC 4 1 x.val % 31 ∧ (16 * (((x.val : Nat) : Int) * (((x.val : Nat) : Int) + 30)) - 1008 * (((x.val : Nat) : Int) * (((x.val : Nat) : Int) + 30) * (((x.val : Nat) : Int) + 29))) % 31 = LC 4 2 x.val % 31 ∧ (336 * (((x.val : Nat) : Int) * (((x.val : Nat) : Int) + 30) * (((x.val : Nat) : Int) + 29))) % 31 = LC 4 3 x.val % 31 := by decide +kernel
theorem comb4 {K0 K1 K2 K3 C0 C1 C2 C3 : Int} (a b c d : Int) (h0 : K0 % 31 = C0 % 31) (h1 : K1 % 31 = C1 % 31) (h2 : K2 % 31 = C2 % 31) (h3 : K3 % 31 = C3 % 31) : (K0 * a + K1 * b + K2 * c + K3 * d) % 31 = ((((0 + C0 * a) % 31 + C1 * b) % 31 + C2 * c) % 31 + C3 * d) % 31 := by
  obtain ⟨q0, rfl⟩ := eq31 h0
  obtain ⟨q1, rfl⟩ := eq31 h1
  obtain ⟨q2, rfl⟩ := eq31 h2
  obtain ⟨q3, rfl⟩ := eq31 h3
  simp only [s1_]
  have e : (C0 + 31 * q0) * a + (C1 + 31 * q1) * b + (C2 + 31 * q2) * c + (C3 + 31 * q3) * d = (0 + C0 * a + C1 * b + C2 * c + C3 * d) + 31 * (q0 * a + q1 * b + q2 * c + q3 * d) := by grind
  rw [e, Int.add_mul_emod_self_left]
theorem lag4 (x : Int) (hx : okE x) (a b c d : Int) : horner x (ithr [a, b, c, d]) = l13dot (l2line 4 x 4) [a, b, c, d] 4 := by
  have h := lc4 ⟨x.toNat, by have := hx.1; have := hx.2; omega⟩
  simp only [Int.toNat_of_nonneg hx.1] at h
  obtain ⟨h0, h1, h2, h3⟩ := h
  exact (thr4 x a b c d).trans (comb4 a b c d h0 h1 h2 h3)
theorem lc5 : ∀ x : Fin 31, (1 - ((x.val : Nat) : Int) + 16 * (((x.val : Nat) : Int) * (((x.val : Nat) : Int) + 30)) - 336 * (((x.val : Nat) : Int) * (((x.val : Nat) : Int) + 30) * (((x.val : Nat) : Int) + 29)) + 2688 * (((x.val : Nat) : Int) * (((x.val : Nat) : Int) + 30) * (((x.val : Nat) : Int) + 29) * (((x.val : Nat) : Int) + 28))) % 31 = LC 5 0 x.val % 31 ∧ (((x.val : Nat) : Int) - 32 * (((x.val : Nat) : Int) * (((x.val : Nat) : Int) + 30)) + 1008 * (((x.val : Nat) : Int) * (((x.val : Nat) : Int) + 30) * (((x.val : Nat) : Int) + 29)) - 10752 * (((x.val : Nat) : Int) * (((x.val : Nat) : Int) + 30) * (((x.val : Nat) : Int) + 29) * (((x.val : Nat) : Int) + 28))) % 31 = LC 5 1 x.val % 31 ∧ (16 * (((x.val : Nat) : Int) * (((x.val : Nat) : Int) + 30)) - 1008 * (((x.val : Nat) : Int) * (((x.val : Nat) : Int) + 30) * (((x.val : Nat) : Int) + 29)) + 16128 * (((x.val : Nat) : Int) * (((x.val : Nat) : Int) + 30) * (((x.val : Nat) : Int) + 29) * (((x.val : Nat) : Int) + 28))) % 31 = LC 5 2 x.val % 31 ∧ (336 * (((x.val : Nat) : Int) * (((x.val : Nat) : Int) + 30) * (((x.val : Nat) : Int) + 29)) - 10752 * (((x.val : Nat) : Int) * (((x.val : Nat) : Int) + 30) * (((x.val : Nat) : Int) + 29) * (((x.val : Nat) : Int) + 28))) % 31 = LC 5 3 x.val % 31 ∧ (2688 * (((x.val : Nat) : Int) * (((x.val : Nat) : Int) + 30) * (((x.val : Nat) : Int) + 29) * (((x.val : Nat) : Int) + 28))) % 31 = LC 5 4 x.val % 31 := by decide +kernel
theorem comb5 {K0 K1 K2 K3 K4 C0 C1 C2 C3 C4 : Int} (a b c d e : Int) (h0 : K0 % 31 = C0 % 31) (h1 : K1 % 31 = C1 % 31) (h2 : K2 % 31 = C2 % 31) (h3 : K3 % 31 = C3 % 31) (h4 : K4 % 31 = C4 % 31) : (K0 * a + K1 * b + K2 * c + K3 * d + K4 * e) % 31 = (((((0 + C0 * a) % 31 + C1 * b) % 31 + C2 * c) % 31 + C3 * d) % 31 + C4 * e) % 31 := by
  obtain ⟨q0, rfl⟩ := eq31 h0
  obtain ⟨q1, rfl⟩ := eq31 h1
  obtain ⟨q2, rfl⟩ := eq31 h2
  obtain ⟨q3, rfl⟩ := eq31 h3
  obtain ⟨q4, rfl⟩ := eq31 h4
  simp only [s1_]
  have e : (C0 + 31 * q0) * a + (C1 + 31 * q1) * b + (C2 + 31 * q2) * c + (C3 + 31 * q3) * d + (C4 + 31 * q4) * e = (0 + C0 * a + C1 * b + C2 * c + C3 * d + C4 * e) + 31 * (q0 * a + q1 * b + q2 * c + q3 * d + q4 * e) := by grind
  rw [e, Int.add_mul_emod_self_left]
theorem lag5 (x : Int) (hx : okE x) (a b c d e : Int) : horner x (ithr [a, b, c, d, e]) = l13dot (l2line 5 x 5) [a, b, c, d, e] 5 := by
  have h := lc5 ⟨x.toNat, by have := hx.1; have := hx.2; omega⟩
  simp only [Int.toNat_of_nonneg hx.1] at h
  obtain ⟨h0, h1, h2, h3, h4⟩ := h
  exact (thr5 x a b c d e).trans (comb5 a b c d e h0 h1 h2 h3 h4)
end Go.Proofs.YtdjoodbidcncaaaGreatDoor.AW
