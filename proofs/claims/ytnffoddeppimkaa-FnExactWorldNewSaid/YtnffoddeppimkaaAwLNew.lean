/- The law of WorldNew. -/
import Derived.Test.YtnffoddeppimkaaAwW
import Derived.Test.YtnffoddeppimkaaAwY
import Derived.Test.YtnffoddeppimkaaAwR
namespace Go.Proofs.Ytnffoddeppimkaa.AW
open Go
set_option maxRecDepth 10000
theorem zr_eq (L : Nat) : List.take L (List.drop 0 (List.replicate L (ci 0))) = rows ci (List.replicate L 0) := by simp [rows]
theorem zr2_eq (L : Nat) : List.replicate L (ci 0) = rows ci (List.replicate L 0) := by simp [rows]
theorem sq_eq (k : Int) (L : Nat) : List.take L (List.drop 0 (rows ci (seqI k L))) = rows ci (seqI k L) := by rw [List.drop_zero]; exact List.take_of_length_le (by simp [rows, seqI])
abbrev wNew (kind need n d a b : Int) (L : Nat) : Wo := ⟨[], [], ⟨⟨1, kind, List.replicate L 0, []⟩, ⟨2, kind, List.replicate L 0, []⟩, need⟩, [], ⟨(n, d), []⟩, a, b⟩
abbrev wNo : Wo := ⟨[], [], ⟨⟨0, 0, [], []⟩, ⟨0, 0, [], []⟩, 0⟩, [], ⟨(0, 0), []⟩, 0, 0⟩
theorem wNo_sm : wNo.sm := by simp [Wo.sm, Ba.sm, Co.sm]
theorem wNew_sm (kind need n d a b : Int) (L : Nat) (hL : L ≤ 4) : (wNew kind need n d a b L).sm := by simp [Wo.sm, Ba.sm, Co.sm]; omega
theorem lawNew_s (kind need n d a b : Int) (L : Nat) (hL : lenOf kind = L) (hle : L ≤ 4) (h : WNew kind need n d a b) : Spec ctx 3 [iv .i64 kind, iv .i64 need, frP n d, iv .i64 a, iv .i64 b] [] (bv true) [] := by
  have hsm := wNew_sm kind need n d a b L hle
  refine spec_mk ctx_mixed 0 Try.func3 rfl rfl (Nat.le_of_ble_eq_true rfl) 0 rfl ?_; conv => whnf
  repeat' ((first | (with_reducible first | refine d_chk ?_ | refine Br.tt ?_ | refine Br.ff ?_ | refine Br.beq ?_ | refine Br.bne ?_ | refine Br.nt ?_ | refine Br.nf ?_ | refine d_wrap ?_ | refine d_rem ?_ | refine d_nat ?_ | refine d_get (by omega) ?_ | refine Br.yesd ?_ | refine Br.nod ?_ | refine Br.yesn ?_ | refine Br.nodn ?_ | refine d_le ?_ | refine d_lt ?_ | refine And.intro ?_ ?_ | exact trivial | exact .inr rfl | rfl | refine sc_int | refine sc_bt ?_ | refine sc_bf ?_ | refine sc_bb ?_ | refine sc_bh ?_ | refine sc_ih ?_) | refine callWm (toFrac_s _ _) 0 rfl ?_ | refine callWm (sWorldNew_s _ _ _ _ _ _ _ hL hle h) 8 rfl ?_ | refine callWm (iWorldNew_s _ _ _ _ _ _ _ hL hle h) 2 rfl ?_ | (refine callWl (f := 8) (eqWorld_s (wNew kind need n d a b L) (wNew kind need n d a b L) hsm) trivial ?_ ?_; focus ((repeat' (first | exact trivial | exact rfl | exact .inr rfl | exact .inl rfl | exact zr_eq _ | refine And.intro ?_ ?_)); done)) | (refine callWl (f := 10) (heldWorld_s 1 kind need n d a b L (by omega) (by omega)) trivial ?_ ?_; focus ((repeat' (first | exact trivial | exact rfl | exact .inr rfl | exact .inl rfl | exact sq_eq _ _ | refine And.intro ?_ ?_)); done)) | (refine call_go (f := 9) rfl rfl [10, 11] ?_; (conv => whnf); refine callWp (markWorld_s 1 kind need n d a b L (List.replicate L 0) (List.replicate L 0) (by simp) (by simp) (by omega) (by omega)) ?_ ?_; focus ((repeat' (first | exact trivial | exact rfl | exact .inr rfl | exact .inl rfl | refine And.intro ?_ ?_)); done)) | refine Br.nodn ?_ rfl | exact zr2_eq _ | with_reducible refine Br.dec (fun _ => ?_) (fun _ => ?_) | with_reducible refine Br.decn (fun _ => ?_) (fun _ => ?_) | with_reducible refine d_left [] ?_ ?_ | exact rfl | exact Nat.le_of_ble_eq_true rfl | (refine Nat.le_of_eq ?_; simp [rows, seqI]; done) | refine call_go rfl rfl [] ?_ | (refine Hid.mk ?_; first | decide | omega | (simp <;> omega) | (intro e; subst e; omega) | (intro e; subst e; simp_all; done) | exact Prod.ext (by omega) (by omega))) <;> conv => whnf)
theorem lawNew_n (kind need n d a b : Int) (L : Nat) (hL : lenOf kind = L) (hle : L ≤ 4) (h : ¬WNew kind need n d a b) : Spec ctx 3 [iv .i64 kind, iv .i64 need, frP n d, iv .i64 a, iv .i64 b] [] (bv true) [] := by
  refine spec_mk ctx_mixed 0 Try.func3 rfl rfl (Nat.le_of_ble_eq_true rfl) 0 rfl ?_; conv => whnf
  repeat' ((first | (with_reducible first | refine d_chk ?_ | refine Br.tt ?_ | refine Br.ff ?_ | refine Br.beq ?_ | refine Br.bne ?_ | refine Br.nt ?_ | refine Br.nf ?_ | refine d_wrap ?_ | refine d_rem ?_ | refine d_nat ?_ | refine d_get (by omega) ?_ | refine Br.yesd ?_ | refine Br.nod ?_ | refine Br.yesn ?_ | refine Br.nodn ?_ | refine d_le ?_ | refine d_lt ?_ | refine And.intro ?_ ?_ | exact trivial | exact .inr rfl | rfl | refine sc_int | refine sc_bt ?_ | refine sc_bf ?_ | refine sc_bb ?_ | refine sc_bh ?_ | refine sc_ih ?_) | refine callWm (toFrac_s _ _) 0 rfl ?_ | refine callWm (sWorldNew_n _ _ _ _ _ _ _ hL hle h) 0 rfl ?_ | refine callWm (iWorldNew_n _ _ _ _ _ _ _ hL hle h) 0 rfl ?_ | (refine callWl (f := 8) (eqWorld_s wNo wNo wNo_sm) trivial ?_ ?_; focus ((repeat' (first | exact trivial | exact rfl | exact .inr rfl | exact .inl rfl | refine And.intro ?_ ?_)); done)) | refine callW0 (heldWorld_n _ (by omega)) rfl trivial ?_ | refine callW0 (markWorld_n _) rfl trivial ?_ | refine Br.nodn ?_ rfl | with_reducible refine Br.dec (fun _ => ?_) (fun _ => ?_) | with_reducible refine Br.decn (fun _ => ?_) (fun _ => ?_) | with_reducible refine d_left [] ?_ ?_ | exact rfl | exact Nat.le_of_ble_eq_true rfl | (refine Nat.le_of_eq ?_; simp [rows, seqI]; done) | refine call_go rfl rfl [] ?_ | (refine Hid.mk ?_; first | decide | omega | (simp <;> omega) | (intro e; subst e; omega) | (intro e; subst e; simp_all; done) | exact Prod.ext (by omega) (by omega))) <;> conv => whnf)
theorem lawNew (kind need n d a b : Int) : Spec ctx 3 [iv .i64 kind, iv .i64 need, frP n d, iv .i64 a, iv .i64 b] [] (bv true) [] := by
  obtain ⟨L, hL, hle⟩ : ∃ L : Nat, lenOf kind = L ∧ L ≤ 4 := by
    unfold lenOf
    by_cases h1 : kind = 1
    · exact ⟨1, by simp [h1], by omega⟩
    by_cases h2 : kind = 2
    · exact ⟨4, by simp [h2], by omega⟩
    by_cases h3 : kind = 3
    · exact ⟨3, by simp [h3], by omega⟩
    exact ⟨0, by simp [h1, h2, h3], by omega⟩
  by_cases h : WNew kind need n d a b
  · exact lawNew_s kind need n d a b L hL hle h
  · exact lawNew_n kind need n d a b L hL hle h
end Go.Proofs.Ytnffoddeppimkaa.AW
