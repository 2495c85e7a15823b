/- The reference's polynomials: products, lines, interpolation. -/
import Derived.Test.YtdjoodbidcncaaaGreatDoorMAxEw
set_option linter.unusedVariables false
set_option linter.unusedSimpArgs false
namespace Go.Proofs.YtdjoodbidcncaaaGreatDoor.AW
open Go
set_option maxRecDepth 10000
theorem allE_set {l : List Int} {i : Nat} {v : Int} (h : allE l) (hv : okE v) : allE (l.set i v) := fun x hx => by
  rcases List.mem_or_eq_of_mem_set hx with g | g
  · exact h x g
  · rw [g]; exact hv
theorem allE_rep (n : Nat) : allE (List.replicate n 0) := fun x hx => by rw [List.eq_of_mem_replicate hx]; omega
theorem allE_app {l : List Int} {v : Int} (h : allE l) (hv : okE v) : allE (l ++ [v]) := fun x hx => by
  rcases List.mem_append.1 hx with g | g
  · exact h x g
  · simp at g; rw [g]; exact hv
theorem allE_getD {l : List Int} (h : allE l) (i : Nat) : okE (l.getD i 0) := by
  by_cases hi : i < l.length
  · simp only [List.getD_eq_getElem?_getD, List.getElem?_eq_getElem hi, Option.getD_some]; exact allE_get h hi
  · rw [List.getD_eq_getElem?_getD, List.getElem?_eq_none (by omega)]; exact ⟨Int.le_refl _, by decide⟩
/-! one polynomial times the other -/
/-! lines -/
def lineN (m : Nat) (x : Int) (i : Nat) : Nat → Int
  | 0 => 1
  | k + 1 => if k = i then lineN m x i k else fmul (lineN m x i k) (fmul (fdif x k) (finv (fdif i k)))
theorem lineN_ok (m : Nat) (x : Int) (i : Nat) : ∀ k, okE (lineN m x i k)
  | 0 => ⟨by simp [lineN], by simp [lineN]⟩
  | k + 1 => by
    rw [lineN]; split
    · exact lineN_ok m x i k
    · exact fmul_ok _ _
def l2line (m : Nat) (x : Int) (n : Nat) : List Int := (List.range n).map fun i : Nat => lineN m x i m
theorem l2line_len (m : Nat) (x : Int) (n : Nat) : (l2line m x n).length = n := by simp [l2line]
theorem l2line_ok (m : Nat) (x : Int) (n : Nat) : allE (l2line m x n) := fun y hy => by
  simp only [l2line, List.mem_map] at hy
  obtain ⟨_, _, rfl⟩ := hy
  exact lineN_ok _ _ _ _
theorem l2line_more (m : Nat) (x : Int) (n : Nat) : l2line m x (n + 1) = l2line m x n ++ [lineN m x n m] := by simp [l2line, List.range_succ]
theorem l2Line_s (m : Nat) (x : Int) (h1 : m ≤ 1000) : Spec ctx 215 [iv .i64 m, iv .i64 x] [] (.own 0 1 0 m none) [(0, some (.row 1 (rows ci (l2line m x m))))] := by
  refine spec_mk ctx_mixed ctx_enters 4 Tryz.func215 rfl rfl (Nat.le_of_ble_eq_true rfl) 0 rfl ?_; conv => whnf
  repeat' ((first | (with_reducible first | refine d_chk ?_ | refine Br.tt ?_ | refine Br.ff ?_ | refine Br.beq ?_ | refine Br.bne ?_ | refine Br.nt ?_ | refine Br.nf ?_ | refine d_wrap ?_ | refine d_rem ?_ | refine d_nat ?_ | refine d_get (by omega) ?_ | refine Br.yesd ?_ | refine Br.nod ?_ | refine Br.yesn ?_ | refine Br.nodn ?_ | refine d_le ?_ | refine d_lt ?_ | refine And.intro ?_ ?_ | exact trivial | exact .inr rfl | rfl | refine sc_int | refine sc_bt ?_ | refine sc_bf ?_ | refine sc_bb ?_ | refine sc_bh ?_ | refine sc_ih ?_) | with_reducible refine Br.dec (fun _ => ?_) (fun _ => ?_) | with_reducible refine Br.decn (fun _ => ?_) (fun _ => ?_) | with_reducible refine d_left [] ?_ ?_ | exact rfl | exact Nat.le_of_ble_eq_true rfl | (refine Nat.le_of_eq ?_; simp [rows, seqI]; done) | refine call_go rfl rfl [] ?_ | (refine Hid.mk ?_; first | decide | omega | (simp <;> omega) | (intro e; subst e; omega) | (intro e; subst e; simp_all; done) | exact Prod.ext (by omega) (by omega))) <;> conv => whnf)
  all_goals (try exact Or.inl rfl)
  refine AW.loopP (fun i : Nat => ⟨[(0, iv .i64 m), (1, iv .i64 x), (5, .own 0 1 0 i none), (6, iv .i64 i)], [(0, some (.row 1 (rows ci (l2line m x i))))], 1⟩) (fun i => i ≤ m) (fun i => m - i) 0 [(0, 0)] (d_sub _ ?_ ?_) (by omega) (fun i hi => ?_) <;> (conv => whnf) <;>
  repeat' ((first | (with_reducible first | refine d_chk ?_ | refine Br.tt ?_ | refine Br.ff ?_ | refine Br.beq ?_ | refine Br.bne ?_ | refine Br.nt ?_ | refine Br.nf ?_ | refine d_wrap ?_ | refine d_rem ?_ | refine d_nat ?_ | refine d_get (by omega) ?_ | refine Br.yesd ?_ | refine Br.nod ?_ | refine Br.yesn ?_ | refine Br.nodn ?_ | refine d_le ?_ | refine d_lt ?_ | refine And.intro ?_ ?_ | exact trivial | exact .inr rfl | rfl | refine sc_int | refine sc_bt ?_ | refine sc_bf ?_ | refine sc_bb ?_ | refine sc_bh ?_ | refine sc_ih ?_) | with_reducible refine d_left [(0, 0)] ?_ ?_ | with_reducible refine Br.dec (fun _ => ?_) (fun _ => ?_) | with_reducible refine Br.decn (fun _ => ?_) (fun _ => ?_) | with_reducible refine d_left [] ?_ ?_ | exact rfl | exact Nat.le_of_ble_eq_true rfl | (refine Nat.le_of_eq ?_; simp [rows, seqI]; done) | refine call_go rfl rfl [] ?_ | (refine Hid.mk ?_; first | decide | omega | (simp <;> omega) | (intro e; subst e; omega) | (intro e; subst e; simp_all; done) | exact Prod.ext (by omega) (by omega))) <;> conv => whnf)
  · exact .inl rfl
  · refine AW.loopP2 (fun (k : Nat) (_ : Unit) => ⟨[(0, iv .i64 m), (1, iv .i64 x), (5, .own 0 1 0 i none), (6, iv .i64 i), (7, iv .i64 (lineN m x i k)), (8, iv .i64 k)], [(0, some (.row 1 (rows ci (l2line m x i))))], 1⟩) (fun k _ => k ≤ m) (fun k _ => m - k) 0 () [(0, 0)] (d_sub _ ?_ ?_) (by omega) (fun k _ hk => ?_) <;> (conv => whnf) <;>
    repeat' ((first | (with_reducible first | refine d_chk ?_ | refine Br.tt ?_ | refine Br.ff ?_ | refine Br.beq ?_ | refine Br.bne ?_ | refine Br.nt ?_ | refine Br.nf ?_ | refine d_wrap ?_ | refine d_rem ?_ | refine d_nat ?_ | refine d_get (by omega) ?_ | refine Br.yesd ?_ | refine Br.nod ?_ | refine Br.yesn ?_ | refine Br.nodn ?_ | refine d_le ?_ | refine d_lt ?_ | refine And.intro ?_ ?_ | exact trivial | exact .inr rfl | rfl | refine sc_int | refine sc_bt ?_ | refine sc_bf ?_ | refine sc_bb ?_ | refine sc_bh ?_ | refine sc_ih ?_) | refine callW0 (sFieldDif_s _ _) rfl trivial ?_ | refine callW0 (sFieldMul_s _ _) rfl trivial ?_ | refine callW0 (l1Inv_s _ (fdif_ok _ _)) rfl trivial ?_ | refine d_end (i+1) [(0, 2)] (d_sub _ ?_ ?_) ?_ | refine d_end2 (k+1) () [(0, 0)] (d_sub _ ?_ ?_) ?_ | (show (2 * (i + 1) + 768) * 8 ≤ 281474976710656; omega) | (show i ≤ (rows ci (l2line m x i)).length; rw [rows_len, l2line_len]; omega) | with_reducible refine Br.dec (fun _ => ?_) (fun _ => ?_) | with_reducible refine Br.decn (fun _ => ?_) (fun _ => ?_) | with_reducible refine d_left [] ?_ ?_ | exact rfl | exact Nat.le_of_ble_eq_true rfl | (refine Nat.le_of_eq ?_; simp [rows, seqI]; done) | refine call_go rfl rfl [] ?_ | (refine Hid.mk ?_; first | decide | omega | (simp <;> omega) | (intro e; subst e; omega) | (intro e; subst e; simp_all; done) | exact Prod.ext (by omega) (by omega))) <;> conv => whnf)
    · exact ⟨rfl⟩
    · refine ⟨?_⟩; rw [lineN, if_neg (by omega)]
    · refine ⟨?_⟩; rw [lineN, if_pos (by omega)]
    · exact (rows_push _ _ _ (l2line_len _ _ _)).trans (by rw [l2line_more, show k = m by omega])
  · omega
  · rw [show i = m by omega]
end Go.Proofs.YtdjoodbidcncaaaGreatDoor.AW

/- The reference's polynomials: through values; proofs. -/
namespace Go.Proofs.YtdjoodbidcncaaaGreatDoor.AW
open Go
set_option maxRecDepth 10000
theorem rows_al (l : List Int) : List.take l.length (List.drop 0 (rows ci l)) = rows ci l := by rw [List.drop_zero]; exact List.take_of_length_le (by simp [rows])
theorem rows_al' (l : List Int) (n : Nat) (h : l.length = n) : List.take n (List.drop 0 (rows ci l)) = rows ci l := by subst h; exact rows_al l
end Go.Proofs.YtdjoodbidcncaaaGreatDoor.AW

/- The reference's proofs, made and cut. -/
namespace Go.Proofs.YtdjoodbidcncaaaGreatDoor.AW
open Go
set_option maxRecDepth 10000
theorem allE_cons {u : Int} {v : List Int} (hu : okE u) (hv : allE v) : allE (u :: v) := fun x hx => by
  rcases List.mem_cons.1 hx with rfl | h
  · exact hu
  · exact hv x h
theorem rows_dall (l : List Int) (a : Nat) : List.drop a (List.take (rows ci l).length (rows ci l)) = rows ci (l.drop a) := by rw [List.take_length]; simp [rows]
theorem l12Cut_s (k : Int) (l : List Int) (hk : 1 ≤ k ∧ k ≤ 3) (hl : (l.length : Int) = 3 * lenOf k + 3) (n : Nat) (hn : (n : Int) = lenOf k) : Spec ctx 214 [iv .i64 k, sl l none] [] (.tup [.own 0 1 0 n none, .agg [iv .i64 (l.getD n 0), iv .i64 (l.getD (n + 1) 0), .own 1 1 0 (2 * n + 1) none]]) (cownH (l.take n) (l.drop (n + 2))) := by
  have la := rows_len ci l
  have hL := lenOf_le k
  refine spec_mk ctx_mixed ctx_enters 4 Tryz.func214 rfl rfl (Nat.le_of_ble_eq_true rfl) 0 rfl ?_; conv => whnf
  repeat' ((first | (with_reducible first | refine d_chk ?_ | refine Br.tt ?_ | refine Br.ff ?_ | refine Br.beq ?_ | refine Br.bne ?_ | refine Br.nt ?_ | refine Br.nf ?_ | refine d_wrap ?_ | refine d_rem ?_ | refine d_nat ?_ | refine d_get (by omega) ?_ | refine Br.yesd ?_ | refine Br.nod ?_ | refine Br.yesn ?_ | refine Br.nodn ?_ | refine d_le ?_ | refine d_lt ?_ | refine And.intro ?_ ?_ | exact trivial | exact .inr rfl | rfl | refine sc_int | refine sc_bt ?_ | refine sc_bf ?_ | refine sc_bb ?_ | refine sc_bh ?_ | refine sc_ih ?_) | refine callW0 (TypeLenL_s k n (by omega)) rfl trivial ?_ | (refine ⟨n + 1, by omega, ?_⟩) | (refine ⟨n + 2, by omega, ?_⟩) | with_reducible refine d_left [(0, 2), (1, 4)] ?_ ?_ | with_reducible refine Br.dec (fun _ => ?_) (fun _ => ?_) | with_reducible refine Br.decn (fun _ => ?_) (fun _ => ?_) | with_reducible refine d_left [] ?_ ?_ | exact rfl | exact Nat.le_of_ble_eq_true rfl | (refine Nat.le_of_eq ?_; simp [rows, seqI]; done) | refine call_go rfl rfl [] ?_ | (refine Hid.mk ?_; first | decide | omega | (simp <;> omega) | (intro e; subst e; omega) | (intro e; subst e; simp_all; done) | exact Prod.ext (by omega) (by omega))) <;> conv => whnf)
  · intro _; omega
  · show (2 * (0 + (List.drop 0 (List.take n (rows ci l))).length) + 768) * 8 ≤ _
    rw [rows_dt, rows_len, List.length_take]; omega
  · intro _; omega
  · show (2 * (0 + (List.drop (n + 2) (List.take (rows ci l).length (rows ci l))).length) + 768) * 8 ≤ _
    rw [rows_dall, rows_len, List.length_drop]; omega
  · rw [rows_dt, rows_len, List.length_take]; omega
  · exact ⟨(getD_get (by omega)).symm⟩
  · exact ⟨(getD_get (by omega)).symm⟩
  · rw [rows_dall, rows_len, List.length_drop]; omega
  · exact rows_dt _ _
  · exact rows_dall _ _
end Go.Proofs.YtdjoodbidcncaaaGreatDoor.AW

/- The reference's parts of a report. -/
namespace Go.Proofs.YtdjoodbidcncaaaGreatDoor.AW
open Go
set_option maxRecDepth 10000
def most (k : Int) : Int := if k = 1 then 1 else if k = 2 then 3 else 7
end Go.Proofs.YtdjoodbidcncaaaGreatDoor.AW

/- The reference's parts of a report: made. -/
namespace Go.Proofs.YtdjoodbidcncaaaGreatDoor.AW
open Go
set_option maxRecDepth 10000
end Go.Proofs.YtdjoodbidcncaaaGreatDoor.AW
