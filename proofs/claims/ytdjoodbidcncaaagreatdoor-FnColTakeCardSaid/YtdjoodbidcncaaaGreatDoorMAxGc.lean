/- The reference's polynomials: products, lines, interpolation. -/
import Derived.Test.YtdjoodbidcncaaaGreatDoorMAxDc
set_option linter.unusedVariables false
set_option linter.unusedSimpArgs false
namespace Go.Proofs.YtdjoodbidcncaaaGreatDoor.AW
open Go
set_option maxRecDepth 10000
theorem allE_set {l : List Int} {i : Nat} {v : Int} (h : allE l) (hv : okE v) : allE (l.set i v) := fun x hx => by
  rcases List.mem_or_eq_of_mem_set hx with g | g
  · exact h x g
  · rw [g]; exact hv
theorem allE_rep (n : Nat) : allE (List.replicate n 0) := fun x hx => by rw [List.eq_of_mem_replicate hx]; omega
theorem allE_app {l : List Int} {v : Int} (h : allE l) (hv : okE v) : allE (l ++ [v]) := fun x hx => by
  rcases List.mem_append.1 hx with g | g
  · exact h x g
  · simp at g; rw [g]; exact hv
theorem allE_getD {l : List Int} (h : allE l) (i : Nat) : okE (l.getD i 0) := by
  by_cases hi : i < l.length
  · simp only [List.getD_eq_getElem?_getD, List.getElem?_eq_getElem hi, Option.getD_some]; exact allE_get h hi
  · rw [List.getD_eq_getElem?_getD, List.getElem?_eq_none (by omega)]; exact ⟨Int.le_refl _, by decide⟩
/-! one polynomial times the other -/
def mulStep (a b out : List Int) (i k : Nat) : List Int := out.set (i + k) ((out.getD (i + k) 0 + a.getD i 0 * b.getD k 0) % 31)
def mulRow (a b out : List Int) (i : Nat) : Nat → List Int
  | 0 => out
  | k + 1 => mulStep a b (mulRow a b out i k) i k
def mulAll (a b out : List Int) : Nat → List Int
  | 0 => out
  | i + 1 => mulRow a b (mulAll a b out i) i b.length
def mulP (a b : List Int) : List Int := mulAll a b (List.replicate (a.length + b.length - 1) 0) a.length
theorem mulRow_len (a b out : List Int) (i : Nat) : ∀ k, (mulRow a b out i k).length = out.length
  | 0 => rfl
  | k + 1 => by simp [mulRow, mulStep, mulRow_len a b out i k]
theorem mulAll_len (a b out : List Int) : ∀ i, (mulAll a b out i).length = out.length
  | 0 => rfl
  | i + 1 => by simp [mulAll, mulRow_len, mulAll_len a b out i]
theorem mulP_len (a b : List Int) : (mulP a b).length = a.length + b.length - 1 := by simp [mulP, mulAll_len]
theorem mulRow_ok {a b out : List Int} {i : Nat} (h : allE out) : ∀ k, allE (mulRow a b out i k)
  | 0 => h
  | k + 1 => allE_set (mulRow_ok h k) (by omega)
theorem mulAll_ok {a b out : List Int} (h : allE out) : ∀ i, allE (mulAll a b out i)
  | 0 => h
  | i + 1 => mulRow_ok (mulAll_ok h i) _
theorem mulP_ok (a b : List Int) : allE (mulP a b) := mulAll_ok (allE_rep _) _
set_option maxHeartbeats 1000000 in
theorem l2Mul_s (a b : List Int) (ha : allE a) (hb : allE b) (h1 : 0 < a.length) (h2 : 0 < b.length) (h3 : a.length ≤ 1000) (h4 : b.length ≤ 1000) : Spec ctx 156 [sl a none, sl b none] [] (.own 0 1 0 (a.length + b.length - 1) none) [(0, some (.row 1 (rows ci (mulP a b))))] := by
  have la := rows_len ci a
  have lb := rows_len ci b
  obtain ⟨n, hn⟩ : ∃ n, n = a.length + b.length - 1 := ⟨_, rfl⟩
  obtain ⟨z, hz⟩ : ∃ z, z = List.replicate n (0 : Int) := ⟨_, rfl⟩
  have hP : mulP a b = mulAll a b z a.length := by unfold mulP; rw [hz, hn]
  have zl : z.length = n := by rw [hz]; simp
  have zo : allE z := by rw [hz]; exact allE_rep n
  rw [← hn, hP]
  have lr := fun i k => (mulRow_len a b (mulAll a b z i) i k).trans ((mulAll_len a b z i).trans zl)
  have lal := fun i => (mulAll_len a b z i).trans zl
  have lrr := fun i k => (rows_len ci (mulRow a b (mulAll a b z i) i k)).trans (lr i k)
  have mo : ∀ i k, allE (mulRow a b (mulAll a b z i) i k) := fun i k => mulRow_ok (mulAll_ok zo i) k
  refine spec_mk ctx_mixed ctx_enters 4 Tryz.func156 rfl rfl (Nat.le_of_ble_eq_true rfl) 0 rfl ?_; conv => whnf
  repeat' ((first | (with_reducible first | refine d_chk ?_ | refine Br.tt ?_ | refine Br.ff ?_ | refine Br.beq ?_ | refine Br.bne ?_ | refine Br.nt ?_ | refine Br.nf ?_ | refine d_wrap ?_ | refine d_rem ?_ | refine d_nat ?_ | refine d_get (by omega) ?_ | refine Br.yesd ?_ | refine Br.nod ?_ | refine Br.yesn ?_ | refine Br.nodn ?_ | refine d_le ?_ | refine d_lt ?_ | refine And.intro ?_ ?_ | exact trivial | exact .inr rfl | rfl | refine sc_int | refine sc_bt ?_ | refine sc_bf ?_ | refine sc_bb ?_ | refine sc_bh ?_ | refine sc_ih ?_) | (show n ≤ 1000000; omega) | (refine ⟨n, by omega, ?_⟩) | with_reducible refine Br.dec (fun _ => ?_) (fun _ => ?_) | with_reducible refine Br.decn (fun _ => ?_) (fun _ => ?_) | with_reducible refine d_left [] ?_ ?_ | exact rfl | exact Nat.le_of_ble_eq_true rfl | (refine Nat.le_of_eq ?_; simp [rows, seqI]; done) | refine call_go rfl rfl [] ?_ | (refine Hid.mk ?_; first | decide | omega | (simp <;> omega) | (intro e; subst e; omega) | (intro e; subst e; simp_all; done) | exact Prod.ext (by omega) (by omega))) <;> conv => whnf)
  refine AW.loopP (fun i : Nat => ⟨[(0, sl a none), (1, sl b none), (5, .own 0 1 0 n none), (6, iv .i64 i)], [(0, some (.row 1 (rows ci (mulAll a b z i))))], 1⟩) (fun i => i ≤ a.length) (fun i => a.length - i) 0 [(0, 0)] (d_sub _ ?_ ?_) (by omega) (fun i hi => ?_) <;> (conv => whnf) <;>
  repeat' ((first | (with_reducible first | refine d_chk ?_ | refine Br.tt ?_ | refine Br.ff ?_ | refine Br.beq ?_ | refine Br.bne ?_ | refine Br.nt ?_ | refine Br.nf ?_ | refine d_wrap ?_ | refine d_rem ?_ | refine d_nat ?_ | refine d_get (by omega) ?_ | refine Br.yesd ?_ | refine Br.nod ?_ | refine Br.yesn ?_ | refine Br.nodn ?_ | refine d_le ?_ | refine d_lt ?_ | refine And.intro ?_ ?_ | exact trivial | exact .inr rfl | rfl | refine sc_int | refine sc_bt ?_ | refine sc_bf ?_ | refine sc_bb ?_ | refine sc_bh ?_ | refine sc_ih ?_) | with_reducible refine d_left [(0, 0)] ?_ ?_ | with_reducible refine Br.dec (fun _ => ?_) (fun _ => ?_) | with_reducible refine Br.decn (fun _ => ?_) (fun _ => ?_) | with_reducible refine d_left [] ?_ ?_ | exact rfl | exact Nat.le_of_ble_eq_true rfl | (refine Nat.le_of_eq ?_; simp [rows, seqI]; done) | refine call_go rfl rfl [] ?_ | (refine Hid.mk ?_; first | decide | omega | (simp <;> omega) | (intro e; subst e; omega) | (intro e; subst e; simp_all; done) | exact Prod.ext (by omega) (by omega))) <;> conv => whnf)
  · exact .inl rfl
  · rw [hz]; simp only [mulAll, rows, List.map_replicate]; rfl
  · refine AW.loopP (fun k : Nat => ⟨[(0, sl a none), (1, sl b none), (5, .own 0 1 0 n none), (6, iv .i64 i), (7, iv .i64 k)], [(0, some (.row 1 (rows ci (mulRow a b (mulAll a b z i) i k))))], 1⟩) (fun k => k ≤ b.length ∧ (mulRow a b (mulAll a b z i) i k).length = n) (fun k => b.length - k) 0 [(0, 0)] (d_sub _ ?_ ?_) ⟨by omega, lr i 0⟩ (fun k ⟨hk, hlr⟩ => ?_) <;> (conv => whnf) <;>
    repeat' ((first | (with_reducible first | refine d_chk ?_ | refine Br.tt ?_ | refine Br.ff ?_ | refine Br.beq ?_ | refine Br.bne ?_ | refine Br.nt ?_ | refine Br.nf ?_ | refine d_wrap ?_ | refine d_rem ?_ | refine d_nat ?_ | refine d_get (by omega) ?_ | refine Br.yesd ?_ | refine Br.nod ?_ | refine Br.yesn ?_ | refine Br.nodn ?_ | refine d_le ?_ | refine d_lt ?_ | refine And.intro ?_ ?_ | exact trivial | exact .inr rfl | rfl | refine sc_int | refine sc_bt ?_ | refine sc_bf ?_ | refine sc_bb ?_ | refine sc_bh ?_ | refine sc_ih ?_) | (refine ⟨i + k, by omega, ?_⟩) | (refine d_mulE (allE_get (by assumption) _) (allE_get (by assumption) _) (fun _ => ?_)) | (refine d_addL (allE_get (mo _ _) _) (fun _ => ?_)) | refine d_end (k+1) [(0, 0)] (d_sub _ ?_ ?_) ?_ | refine d_end (i+1) [(0, 0)] (d_sub _ ?_ ?_) ?_ | with_reducible refine d_mod ?_ | exact fun h => by cases h | with_reducible refine Br.dec (fun _ => ?_) (fun _ => ?_) | with_reducible refine Br.decn (fun _ => ?_) (fun _ => ?_) | with_reducible refine d_left [] ?_ ?_ | exact rfl | exact Nat.le_of_ble_eq_true rfl | (refine Nat.le_of_eq ?_; simp [rows, seqI]; done) | refine call_go rfl rfl [] ?_ | (refine Hid.mk ?_; first | decide | omega | (simp <;> omega) | (intro e; subst e; omega) | (intro e; subst e; simp_all; done) | exact Prod.ext (by omega) (by omega))) <;> conv => whnf)
    · refine (rows_set (i := 0 + (i + k)) rfl).trans ?_
      simp only [Nat.zero_add, mulRow, mulStep]
      rw [getD_get (by omega), getD_get (by omega), getD_get (by omega)]
    · exact ⟨by omega, lr i (k + 1)⟩
    · rw [mulAll, show k = b.length by omega]
  · rw [show i = a.length by omega]
/-! lines -/
def lineN (m : Nat) (x : Int) (i : Nat) : Nat → Int
  | 0 => 1
  | k + 1 => if k = i then lineN m x i k else fmul (lineN m x i k) (fmul (fdif x k) (finv (fdif i k)))
theorem lineN_ok (m : Nat) (x : Int) (i : Nat) : ∀ k, okE (lineN m x i k)
  | 0 => ⟨by simp [lineN], by simp [lineN]⟩
  | k + 1 => by
    rw [lineN]; split
    · exact lineN_ok m x i k
    · exact fmul_ok _ _
def l2line (m : Nat) (x : Int) (n : Nat) : List Int := (List.range n).map fun i : Nat => lineN m x i m
theorem l2line_len (m : Nat) (x : Int) (n : Nat) : (l2line m x n).length = n := by simp [l2line]
theorem l2line_ok (m : Nat) (x : Int) (n : Nat) : allE (l2line m x n) := fun y hy => by
  simp only [l2line, List.mem_map] at hy
  obtain ⟨_, _, rfl⟩ := hy
  exact lineN_ok _ _ _ _
theorem l2line_more (m : Nat) (x : Int) (n : Nat) : l2line m x (n + 1) = l2line m x n ++ [lineN m x n m] := by simp [l2line, List.range_succ]
theorem l2Line_s (m : Nat) (x : Int) (h1 : m ≤ 1000) : Spec ctx 215 [iv .i64 m, iv .i64 x] [] (.own 0 1 0 m none) [(0, some (.row 1 (rows ci (l2line m x m))))] := by
  refine spec_mk ctx_mixed ctx_enters 4 Tryz.func215 rfl rfl (Nat.le_of_ble_eq_true rfl) 0 rfl ?_; conv => whnf
  repeat' ((first | (with_reducible first | refine d_chk ?_ | refine Br.tt ?_ | refine Br.ff ?_ | refine Br.beq ?_ | refine Br.bne ?_ | refine Br.nt ?_ | refine Br.nf ?_ | refine d_wrap ?_ | refine d_rem ?_ | refine d_nat ?_ | refine d_get (by omega) ?_ | refine Br.yesd ?_ | refine Br.nod ?_ | refine Br.yesn ?_ | refine Br.nodn ?_ | refine d_le ?_ | refine d_lt ?_ | refine And.intro ?_ ?_ | exact trivial | exact .inr rfl | rfl | refine sc_int | refine sc_bt ?_ | refine sc_bf ?_ | refine sc_bb ?_ | refine sc_bh ?_ | refine sc_ih ?_) | with_reducible refine Br.dec (fun _ => ?_) (fun _ => ?_) | with_reducible refine Br.decn (fun _ => ?_) (fun _ => ?_) | with_reducible refine d_left [] ?_ ?_ | exact rfl | exact Nat.le_of_ble_eq_true rfl | (refine Nat.le_of_eq ?_; simp [rows, seqI]; done) | refine call_go rfl rfl [] ?_ | (refine Hid.mk ?_; first | decide | omega | (simp <;> omega) | (intro e; subst e; omega) | (intro e; subst e; simp_all; done) | exact Prod.ext (by omega) (by omega))) <;> conv => whnf)
  all_goals (try exact Or.inl rfl)
  refine AW.loopP (fun i : Nat => ⟨[(0, iv .i64 m), (1, iv .i64 x), (5, .own 0 1 0 i none), (6, iv .i64 i)], [(0, some (.row 1 (rows ci (l2line m x i))))], 1⟩) (fun i => i ≤ m) (fun i => m - i) 0 [(0, 0)] (d_sub _ ?_ ?_) (by omega) (fun i hi => ?_) <;> (conv => whnf) <;>
  repeat' ((first | (with_reducible first | refine d_chk ?_ | refine Br.tt ?_ | refine Br.ff ?_ | refine Br.beq ?_ | refine Br.bne ?_ | refine Br.nt ?_ | refine Br.nf ?_ | refine d_wrap ?_ | refine d_rem ?_ | refine d_nat ?_ | refine d_get (by omega) ?_ | refine Br.yesd ?_ | refine Br.nod ?_ | refine Br.yesn ?_ | refine Br.nodn ?_ | refine d_le ?_ | refine d_lt ?_ | refine And.intro ?_ ?_ | exact trivial | exact .inr rfl | rfl | refine sc_int | refine sc_bt ?_ | refine sc_bf ?_ | refine sc_bb ?_ | refine sc_bh ?_ | refine sc_ih ?_) | with_reducible refine d_left [(0, 0)] ?_ ?_ | with_reducible refine Br.dec (fun _ => ?_) (fun _ => ?_) | with_reducible refine Br.decn (fun _ => ?_) (fun _ => ?_) | with_reducible refine d_left [] ?_ ?_ | exact rfl | exact Nat.le_of_ble_eq_true rfl | (refine Nat.le_of_eq ?_; simp [rows, seqI]; done) | refine call_go rfl rfl [] ?_ | (refine Hid.mk ?_; first | decide | omega | (simp <;> omega) | (intro e; subst e; omega) | (intro e; subst e; simp_all; done) | exact Prod.ext (by omega) (by omega))) <;> conv => whnf)
  · exact .inl rfl
  · refine AW.loopP2 (fun (k : Nat) (_ : Unit) => ⟨[(0, iv .i64 m), (1, iv .i64 x), (5, .own 0 1 0 i none), (6, iv .i64 i), (7, iv .i64 (lineN m x i k)), (8, iv .i64 k)], [(0, some (.row 1 (rows ci (l2line m x i))))], 1⟩) (fun k _ => k ≤ m) (fun k _ => m - k) 0 () [(0, 0)] (d_sub _ ?_ ?_) (by omega) (fun k _ hk => ?_) <;> (conv => whnf) <;>
    repeat' ((first | (with_reducible first | refine d_chk ?_ | refine Br.tt ?_ | refine Br.ff ?_ | refine Br.beq ?_ | refine Br.bne ?_ | refine Br.nt ?_ | refine Br.nf ?_ | refine d_wrap ?_ | refine d_rem ?_ | refine d_nat ?_ | refine d_get (by omega) ?_ | refine Br.yesd ?_ | refine Br.nod ?_ | refine Br.yesn ?_ | refine Br.nodn ?_ | refine d_le ?_ | refine d_lt ?_ | refine And.intro ?_ ?_ | exact trivial | exact .inr rfl | rfl | refine sc_int | refine sc_bt ?_ | refine sc_bf ?_ | refine sc_bb ?_ | refine sc_bh ?_ | refine sc_ih ?_) | refine callW0 (sFieldDif_s _ _) rfl trivial ?_ | refine callW0 (sFieldMul_s _ _) rfl trivial ?_ | refine callW0 (l1Inv_s _ (fdif_ok _ _)) rfl trivial ?_ | refine d_end (i+1) [(0, 2)] (d_sub _ ?_ ?_) ?_ | refine d_end2 (k+1) () [(0, 0)] (d_sub _ ?_ ?_) ?_ | (show (2 * (i + 1) + 768) * 8 ≤ 281474976710656; omega) | (show i ≤ (rows ci (l2line m x i)).length; rw [rows_len, l2line_len]; omega) | with_reducible refine Br.dec (fun _ => ?_) (fun _ => ?_) | with_reducible refine Br.decn (fun _ => ?_) (fun _ => ?_) | with_reducible refine d_left [] ?_ ?_ | exact rfl | exact Nat.le_of_ble_eq_true rfl | (refine Nat.le_of_eq ?_; simp [rows, seqI]; done) | refine call_go rfl rfl [] ?_ | (refine Hid.mk ?_; first | decide | omega | (simp <;> omega) | (intro e; subst e; omega) | (intro e; subst e; simp_all; done) | exact Prod.ext (by omega) (by omega))) <;> conv => whnf)
    · exact ⟨rfl⟩
    · refine ⟨?_⟩; rw [lineN, if_neg (by omega)]
    · refine ⟨?_⟩; rw [lineN, if_pos (by omega)]
    · exact (rows_push _ _ _ (l2line_len _ _ _)).trans (by rw [l2line_more, show k = m by omega])
  · omega
  · rw [show i = m by omega]
end Go.Proofs.YtdjoodbidcncaaaGreatDoor.AW

/- The reference's polynomials: through values; proofs. -/
namespace Go.Proofs.YtdjoodbidcncaaaGreatDoor.AW
open Go
set_option maxRecDepth 10000
theorem rows_al (l : List Int) : List.take l.length (List.drop 0 (rows ci l)) = rows ci l := by rw [List.drop_zero]; exact List.take_of_length_le (by simp [rows])
theorem rows_al' (l : List Int) (n : Nat) (h : l.length = n) : List.take n (List.drop 0 (rows ci l)) = rows ci l := by subst h; exact rows_al l
def thrQ (i k : Nat) : List Int := [fmul (fdif 0 k) (finv (fdif i k)), finv (fdif i k)]
def thrP (i : Nat) : Nat → List Int
  | 0 => [1]
  | k + 1 => if k = i then thrP i k else mulP (thrP i k) (thrQ i k)
theorem thrQ_ok (i k : Nat) : allE (thrQ i k) := fun x hx => by
  simp only [thrQ, List.mem_cons, List.not_mem_nil, or_false] at hx
  rcases hx with rfl | rfl
  · exact fmul_ok _ _
  · exact finv_ok (fdif_ok _ _)
theorem thrP_ok (i : Nat) : ∀ k, allE (thrP i k)
  | 0 => fun x hx => by simp only [thrP, List.mem_cons, List.not_mem_nil, or_false] at hx; subst hx; omega
  | k + 1 => by
    rw [thrP]; split
    · exact thrP_ok i k
    · exact mulP_ok _ _
theorem thrP_len (i : Nat) : ∀ k, (thrP i k).length = if i < k then k else k + 1
  | 0 => by simp [thrP]
  | k + 1 => by
    have := thrP_len i k
    rw [thrP]; split
    · rename_i e; subst e; rw [this]; simp
    · rw [mulP_len, this]; simp only [thrQ, List.length_cons, List.length_nil]; split <;> split <;> omega
theorem mulThr_s (i k : Nat) (hk : k ≤ 900) : Spec ctx 156 [sl (thrP i k) none, sl [fmul (fdif 0 k) (finv (fdif i k)), finv (fdif i k)] none] [] (.own 0 1 0 ((thrP i k).length + 1) none) [(0, some (.row 1 (rows ci (mulP (thrP i k) (thrQ i k)))))] := by
  have h := thrP_len i k
  exact l2Mul_s (thrP i k) (thrQ i k) (thrP_ok _ _) (thrQ_ok _ _) (by rw [h]; split <;> omega) (by simp [thrQ]) (by rw [h]; split <;> omega) (by simp [thrQ])
def thrAdd (v : Int) (p out : List Int) : Nat → List Int
  | 0 => out
  | k + 1 => (thrAdd v p out k).set k (((thrAdd v p out k).getD k 0 + v * p.getD k 0) % 31)
theorem thrAdd_len (v : Int) (p out : List Int) : ∀ k, (thrAdd v p out k).length = out.length
  | 0 => rfl
  | k + 1 => by simp [thrAdd, thrAdd_len v p out k]
theorem thrAdd_ok {v : Int} {p out : List Int} (h : allE out) : ∀ k, allE (thrAdd v p out k)
  | 0 => h
  | k + 1 => allE_set (thrAdd_ok h k) (by omega)
def thrAll (vals z : List Int) : Nat → List Int
  | 0 => z
  | i + 1 => thrAdd (vals.getD i 0) (thrP i vals.length) (thrAll vals z i) vals.length
theorem thrAll_len (vals z : List Int) : ∀ i, (thrAll vals z i).length = z.length
  | 0 => rfl
  | i + 1 => by simp [thrAll, thrAdd_len, thrAll_len vals z i]
theorem thrAll_ok {vals z : List Int} (h : allE z) : ∀ i, allE (thrAll vals z i)
  | 0 => h
  | i + 1 => thrAdd_ok (thrAll_ok h i) _
def through (vals : List Int) : List Int := thrAll vals (List.replicate vals.length 0) vals.length
theorem through_len (vals : List Int) : (through vals).length = vals.length := by simp [through, thrAll_len]
theorem through_ok (vals : List Int) : allE (through vals) := thrAll_ok (allE_rep _) _
set_option maxHeartbeats 1000000 in
theorem l2Through_s (a : List Int) (ha : allE a) (h1 : a.length ≤ 900) : Spec ctx 157 [sl a none] [] (.own 0 1 0 a.length none) [(0, some (.row 1 (rows ci (through a))))] := by
  have la := rows_len ci a
  obtain ⟨n, hn⟩ : ∃ n, n = a.length := ⟨_, rfl⟩
  obtain ⟨z, hz⟩ : ∃ z, z = List.replicate n (0 : Int) := ⟨_, rfl⟩
  have zl : z.length = n := by rw [hz]; simp
  have zo : allE z := by rw [hz]; exact allE_rep n
  have hP : through a = thrAll a z n := by rw [through, hz, hn]
  rw [hP, ← hn]
  have ao := fun i k => thrAdd_ok (v := a.getD i 0) (p := thrP i n) (thrAll_ok (vals := a) zo i) k
  have al : ∀ i k, (thrAdd (a.getD i 0) (thrP i n) (thrAll a z i) k).length = n := fun i k => (thrAdd_len _ _ _ _).trans ((thrAll_len _ _ _).trans zl)
  refine spec_mk ctx_mixed ctx_enters 4 Tryz.func157 rfl rfl (Nat.le_of_ble_eq_true rfl) 0 rfl ?_; conv => whnf
  repeat' ((first | (with_reducible first | refine d_chk ?_ | refine Br.tt ?_ | refine Br.ff ?_ | refine Br.beq ?_ | refine Br.bne ?_ | refine Br.nt ?_ | refine Br.nf ?_ | refine d_wrap ?_ | refine d_rem ?_ | refine d_nat ?_ | refine d_get (by omega) ?_ | refine Br.yesd ?_ | refine Br.nod ?_ | refine Br.yesn ?_ | refine Br.nodn ?_ | refine d_le ?_ | refine d_lt ?_ | refine And.intro ?_ ?_ | exact trivial | exact .inr rfl | rfl | refine sc_int | refine sc_bt ?_ | refine sc_bf ?_ | refine sc_bb ?_ | refine sc_bh ?_ | refine sc_ih ?_) | (refine ⟨n, by omega, ?_⟩) | with_reducible refine Br.dec (fun _ => ?_) (fun _ => ?_) | with_reducible refine Br.decn (fun _ => ?_) (fun _ => ?_) | with_reducible refine d_left [] ?_ ?_ | exact rfl | exact Nat.le_of_ble_eq_true rfl | (refine Nat.le_of_eq ?_; simp [rows, seqI]; done) | refine call_go rfl rfl [] ?_ | (refine Hid.mk ?_; first | decide | omega | (simp <;> omega) | (intro e; subst e; omega) | (intro e; subst e; simp_all; done) | exact Prod.ext (by omega) (by omega))) <;> conv => whnf)
  refine AW.loopP (fun i : Nat => ⟨[(0, sl a none), (3, .own 0 1 0 n none), (4, iv .i64 i)], [(0, some (.row 1 (rows ci (thrAll a z i))))], 1⟩) (fun i => i ≤ n) (fun i => n - i) 0 [(0, 0)] (d_sub _ ?_ ?_) (by omega) (fun i hi => ?_) <;> (conv => whnf) <;>
  repeat' ((first | (with_reducible first | refine d_chk ?_ | refine Br.tt ?_ | refine Br.ff ?_ | refine Br.beq ?_ | refine Br.bne ?_ | refine Br.nt ?_ | refine Br.nf ?_ | refine d_wrap ?_ | refine d_rem ?_ | refine d_nat ?_ | refine d_get (by omega) ?_ | refine Br.yesd ?_ | refine Br.nod ?_ | refine Br.yesn ?_ | refine Br.nodn ?_ | refine d_le ?_ | refine d_lt ?_ | refine And.intro ?_ ?_ | exact trivial | exact .inr rfl | rfl | refine sc_int | refine sc_bt ?_ | refine sc_bf ?_ | refine sc_bb ?_ | refine sc_bh ?_ | refine sc_ih ?_) | with_reducible refine d_left [(0, 0)] ?_ ?_ | with_reducible refine Br.dec (fun _ => ?_) (fun _ => ?_) | with_reducible refine Br.decn (fun _ => ?_) (fun _ => ?_) | with_reducible refine d_left [] ?_ ?_ | exact rfl | exact Nat.le_of_ble_eq_true rfl | (refine Nat.le_of_eq ?_; simp [rows, seqI]; done) | refine call_go rfl rfl [] ?_ | (refine Hid.mk ?_; first | decide | omega | (simp <;> omega) | (intro e; subst e; omega) | (intro e; subst e; simp_all; done) | exact Prod.ext (by omega) (by omega))) <;> conv => whnf)
  · omega
  · exact .inl rfl
  · rw [hz, show (rows ci a).length = n by omega]; simp only [thrAll, rows, List.map_replicate]; rfl
  · have tl := thrP_len i
    refine AW.loopP2 (fun (k : Nat) (_ : Unit) => ⟨[(0, sl a none), (3, .own 0 1 0 n none), (4, iv .i64 i), (5, .own 1 1 0 (thrP i k).length none), (6, iv .i64 k)], [(0, some (.row 1 (rows ci (thrAll a z i)))), (1, some (.row 1 (rows ci (thrP i k))))], 2⟩) (fun k _ => k ≤ n) (fun k _ => n - k) 0 () [(0, 0), (1, 1)] (d_sub _ ?_ ?_) (by omega) (fun k _ hk => (Decidable.em (k = i)).elim (fun e => ?_) (fun e => ?_)) <;> (conv => whnf) <;>
    repeat' ((first | (with_reducible first | refine d_chk ?_ | refine Br.tt ?_ | refine Br.ff ?_ | refine Br.beq ?_ | refine Br.bne ?_ | refine Br.nt ?_ | refine Br.nf ?_ | refine d_wrap ?_ | refine d_rem ?_ | refine d_nat ?_ | refine d_get (by omega) ?_ | refine Br.yesd ?_ | refine Br.nod ?_ | refine Br.yesn ?_ | refine Br.nodn ?_ | refine d_le ?_ | refine d_lt ?_ | refine And.intro ?_ ?_ | exact trivial | exact .inr rfl | rfl | refine sc_int | refine sc_bt ?_ | refine sc_bf ?_ | refine sc_bb ?_ | refine sc_bh ?_ | refine sc_ih ?_) | refine callW0 (sFieldDif_s _ _) rfl trivial ?_ | refine callW0 (sFieldMul_s _ _) rfl trivial ?_ | refine callW0 (l1Inv_s _ (fdif_ok _ _)) rfl trivial ?_ | (refine callWln (f := 156) (mulThr_s i k (by omega)) 1 ⟨trivial, rows_sc _, trivial⟩ ?_ ?_; focus ((repeat' (first | exact trivial | exact rfl | exact .inr rfl | exact .inl rfl | exact rows_al _ | refine And.intro ?_ ?_)); done)) | (have e' : ¬ k = i := e; refine d_end2 (k+1) () [(0, 0), (1, 3)] (d_sub _ ?_ ?_) ?_) | refine d_end2 (k+1) () [(0, 0), (1, 1)] (d_sub _ ?_ ?_) ?_ | with_reducible refine Br.dec (fun _ => ?_) (fun _ => ?_) | with_reducible refine Br.decn (fun _ => ?_) (fun _ => ?_) | with_reducible refine d_left [] ?_ ?_ | exact rfl | exact Nat.le_of_ble_eq_true rfl | (refine Nat.le_of_eq ?_; simp [rows, seqI]; done) | refine call_go rfl rfl [] ?_ | (refine Hid.mk ?_; first | decide | omega | (simp <;> omega) | (intro e; subst e; omega) | (intro e; subst e; simp_all; done) | exact Prod.ext (by omega) (by omega))) <;> conv => whnf)
    all_goals (first | exact .inl rfl | (rw [thrP, if_pos e]; done) | (rw [thrP, if_neg e]; done) | (rw [thrP, if_neg e, mulP_len]; simp only [thrQ, List.length_cons, List.length_nil]; omega) | skip)
    have ek : k = n := by omega
    have tn : (thrP i n).length = n := by have := tl n; rw [if_pos (by omega)] at this; exact this
    obtain ⟨v, hv⟩ : ∃ v, v = a.getD i 0 := ⟨_, rfl⟩
    have il : i < a.length := by omega
    have hav : a[i] = v := by rw [hv, getD_get il]
    have ao' := ao i
    have al' := al i
    rw [← hv] at ao' al'
    refine AW.loopP3 (fun (j : Nat) (_ _ : Unit) => ⟨[(0, sl a none), (3, .own 0 1 0 n none), (4, iv .i64 i), (5, .own 1 1 0 n none), (8, iv .i64 j)], [(0, some (.row 1 (rows ci (thrAdd (v) (thrP i n) (thrAll a z i) j)))), (1, some (.row 1 (rows ci (thrP i n))))], 2⟩) (fun j _ _ => j ≤ n ∧ (thrAdd (v) (thrP i n) (thrAll a z i) j).length = n) (fun j _ _ => n - j) 0 () () [(0, 0), (1, 1)] (d_sub _ ?_ ?_) ⟨by omega, al' 0⟩ (fun j _ _ ⟨hj, hlj⟩ => ?_) <;> (conv => whnf) <;>
    repeat' ((first | (with_reducible first | refine d_chk ?_ | refine Br.tt ?_ | refine Br.ff ?_ | refine Br.beq ?_ | refine Br.bne ?_ | refine Br.nt ?_ | refine Br.nf ?_ | refine d_wrap ?_ | refine d_rem ?_ | refine d_nat ?_ | refine d_get (by omega) ?_ | refine Br.yesd ?_ | refine Br.nod ?_ | refine Br.yesn ?_ | refine Br.nodn ?_ | refine d_le ?_ | refine d_lt ?_ | refine And.intro ?_ ?_ | exact trivial | exact .inr rfl | rfl | refine sc_int | refine sc_bt ?_ | refine sc_bf ?_ | refine sc_bb ?_ | refine sc_bh ?_ | refine sc_ih ?_) | (refine d_mulE (allE_get ha _) (allE_get (thrP_ok _ _) _) (fun _ => ?_)) | (refine d_addL (allE_get (ao' _) _) (fun _ => ?_)) | refine d_end3 (j+1) () () [(0, 0), (1, 1)] (d_sub _ ?_ ?_) ?_ | refine d_end (i+1) [(0, 0)] (d_sub _ ?_ ?_) ?_ | with_reducible refine d_mod ?_ | exact fun h => by cases h | with_reducible refine Br.dec (fun _ => ?_) (fun _ => ?_) | with_reducible refine Br.decn (fun _ => ?_) (fun _ => ?_) | with_reducible refine d_left [] ?_ ?_ | exact rfl | exact Nat.le_of_ble_eq_true rfl | (refine Nat.le_of_eq ?_; simp [rows, seqI]; done) | refine call_go rfl rfl [] ?_ | (refine Hid.mk ?_; first | decide | omega | (simp <;> omega) | (intro e; subst e; omega) | (intro e; subst e; simp_all; done) | exact Prod.ext (by omega) (by omega))) <;> conv => whnf)
    · rw [ek]; exact tn
    · rw [ek]
    · refine (rows_set (i := 0 + j) rfl).trans ?_
      simp only [Nat.zero_add, thrAdd]
      rw [getD_get (by omega), getD_get (by omega), hav]
    · exact ⟨by omega, al' (j + 1)⟩
    · rw [thrAll, ← hn, ← hv, show j = n by omega]
  · rw [show i = n by omega]
end Go.Proofs.YtdjoodbidcncaaaGreatDoor.AW

/- The reference's proofs, made and cut. -/
namespace Go.Proofs.YtdjoodbidcncaaaGreatDoor.AW
open Go
set_option maxRecDepth 10000
theorem l12sec_ok {v : List Int} {w : Int} (hw : okE w) : ∀ i, allE (l12sec v w i)
  | 0 => fun x hx => by simp only [l12sec, List.mem_cons, List.not_mem_nil, or_false] at hx; subst hx; exact hw
  | i + 1 => allE_app (l12sec_ok hw i) (fdif_ok _ _)
theorem allE_cons {u : Int} {v : List Int} (hu : okE u) (hv : allE v) : allE (u :: v) := fun x hx => by
  rcases List.mem_cons.1 hx with rfl | h
  · exact hu
  · exact hv x h
def l12H (v : List Int) (u w : Int) : List Int := mulP (through (u :: v)) (through (l12sec v w v.length))
theorem l12H_len (v : List Int) (u w : Int) : (l12H v u w).length = 2 * v.length + 1 := by
  simp only [l12H, mulP_len, through_len, List.length_cons, l12sec_len]; omega
theorem l12H_ok (v : List Int) (u w : Int) : allE (l12H v u w) := mulP_ok _ _
theorem l12Make_s (v : List Int) (u w : Int) (hv : allE v) (hu : okE u) (hw : okE w) (hl : v.length ≤ 100) : Spec ctx 112 [sl v none, iv .i64 u, iv .i64 w] [] (.agg [iv .i64 u, iv .i64 w, .own 0 1 0 (2 * v.length + 1) none]) [(0, some (.row 1 (rows ci (l12H v u w))))] := by
  have la := rows_len ci v
  have s1 := l2Through_s (u :: v) (allE_cons hu hv) (by simp; omega)
  have s2 := l2Through_s (l12sec v w v.length) (l12sec_ok hw _) (by rw [l12sec_len]; omega)
  have s3 := l2Mul_s (through (u :: v)) (through (l12sec v w v.length)) (through_ok _) (through_ok _) (by rw [through_len]; simp) (by rw [through_len, l12sec_len]; omega) (by rw [through_len]; simp; omega) (by rw [through_len, l12sec_len]; omega)
  have e1 : (u :: v).length = v.length + 1 := by simp
  have e2 : (through (u :: v)).length = v.length + 1 := by rw [through_len, e1]
  have e3 : (through (l12sec v w v.length)).length = v.length + 1 := by rw [through_len, l12sec_len]
  rw [e1] at s1
  rw [l12sec_len] at s2
  rw [e2, e3, show v.length + 1 + (v.length + 1) - 1 = 2 * v.length + 1 by omega] at s3
  refine spec_mk ctx_mixed ctx_enters 9 Tryz.func112 rfl rfl (Nat.le_of_ble_eq_true rfl) 0 rfl ?_; conv => whnf
  repeat' ((first | (with_reducible first | refine d_chk ?_ | refine Br.tt ?_ | refine Br.ff ?_ | refine Br.beq ?_ | refine Br.bne ?_ | refine Br.nt ?_ | refine Br.nf ?_ | refine d_wrap ?_ | refine d_rem ?_ | refine d_nat ?_ | refine d_get (by omega) ?_ | refine Br.yesd ?_ | refine Br.nod ?_ | refine Br.yesn ?_ | refine Br.nodn ?_ | refine d_le ?_ | refine d_lt ?_ | refine And.intro ?_ ?_ | exact trivial | exact .inr rfl | rfl | refine sc_int | refine sc_bt ?_ | refine sc_bf ?_ | refine sc_bb ?_ | refine sc_bh ?_ | refine sc_ih ?_) | refine callWn (l12First_s v u (by omega)) 1 rfl ⟨trivial, rows_sc _, trivial⟩ ?_ | refine callWn (l12Second_s v w (by omega)) 1 rfl ⟨trivial, rows_sc _, trivial⟩ ?_ | (refine callWln (f := 157) s1 1 ⟨trivial, rows_sc _, trivial⟩ ?_ ?_; focus ((repeat' (first | exact trivial | exact rfl | exact .inr rfl | exact .inl rfl | exact rows_al' _ _ e1 | refine And.intro ?_ ?_)); done)) | (refine callWln (f := 157) s2 1 ⟨trivial, rows_sc _, trivial⟩ ?_ ?_; focus ((repeat' (first | exact trivial | exact rfl | exact .inr rfl | exact .inl rfl | exact rows_al' _ _ (l12sec_len _ _ _) | refine And.intro ?_ ?_)); done)) | (refine callWln (f := 156) s3 1 ⟨trivial, rows_sc _, trivial⟩ ?_ ?_; focus ((repeat' (first | exact trivial | exact rfl | exact .inr rfl | exact .inl rfl | first | exact rows_al' _ _ e2 | exact rows_al' _ _ e3 | refine And.intro ?_ ?_)); done)) | with_reducible refine d_left [(0, 5)] ?_ ?_ | with_reducible refine Br.dec (fun _ => ?_) (fun _ => ?_) | with_reducible refine Br.decn (fun _ => ?_) (fun _ => ?_) | with_reducible refine d_left [] ?_ ?_ | exact rfl | exact Nat.le_of_ble_eq_true rfl | (refine Nat.le_of_eq ?_; simp [rows, seqI]; done) | refine call_go rfl rfl [] ?_ | (refine Hid.mk ?_; first | decide | omega | (simp <;> omega) | (intro e; subst e; omega) | (intro e; subst e; simp_all; done) | exact Prod.ext (by omega) (by omega))) <;> conv => whnf)
  · show 0 + (v.length + 1) ≤ _
    rw [rows_len, l12sec_len]; omega
  · show 0 + (v.length + 1) ≤ _
    rw [rows_len, e2]; omega
  · show 0 + (v.length + 1) ≤ _
    rw [rows_len, e3]; omega
theorem l12All_s (v h : List Int) (u w : Int) (h1 : v.length ≤ 100) (h2 : h.length ≤ 300) : Spec ctx 115 [sl v none, .agg [iv .i64 u, iv .i64 w, sl h none]] [] (.own 0 1 0 (v.length + 2 + h.length) none) [(0, some (.row 1 (rows ci (v ++ [u, w] ++ h))))] := by
  have la := rows_len ci v
  have lb := rows_len ci h
  refine spec_mk ctx_mixed ctx_enters 4 Tryz.func115 rfl rfl (Nat.le_of_ble_eq_true rfl) 0 rfl ?_; conv => whnf
  repeat' ((first | (with_reducible first | refine d_chk ?_ | refine Br.tt ?_ | refine Br.ff ?_ | refine Br.beq ?_ | refine Br.bne ?_ | refine Br.nt ?_ | refine Br.nf ?_ | refine d_wrap ?_ | refine d_rem ?_ | refine d_nat ?_ | refine d_get (by omega) ?_ | refine Br.yesd ?_ | refine Br.nod ?_ | refine Br.yesn ?_ | refine Br.nodn ?_ | refine d_le ?_ | refine d_lt ?_ | refine And.intro ?_ ?_ | exact trivial | exact .inr rfl | rfl | refine sc_int | refine sc_bt ?_ | refine sc_bf ?_ | refine sc_bb ?_ | refine sc_bh ?_ | refine sc_ih ?_) | with_reducible refine d_left [(0, 5)] ?_ ?_ | with_reducible refine Br.dec (fun _ => ?_) (fun _ => ?_) | with_reducible refine Br.decn (fun _ => ?_) (fun _ => ?_) | with_reducible refine d_left [] ?_ ?_ | exact rfl | exact Nat.le_of_ble_eq_true rfl | (refine Nat.le_of_eq ?_; simp [rows, seqI]; done) | refine call_go rfl rfl [] ?_ | (refine Hid.mk ?_; first | decide | omega | (simp <;> omega) | (intro e; subst e; omega) | (intro e; subst e; simp_all; done) | exact Prod.ext (by omega) (by omega))) <;> conv => whnf)
  · show (2 * (0 + (rows ci v).length) + 768) * 8 ≤ _
    omega
  · show (2 * (0 + (rows ci v).length + 2) + 768) * 8 ≤ _
    omega
  · show (2 * (0 + (rows ci v).length + 2 + (rows ci h).length) + 768) * 8 ≤ _
    omega
  · show 0 + (rows ci v).length + 2 + (rows ci h).length = _
    omega
  · show List.take (0 + (rows ci v).length + 2) (List.take (0 + (rows ci v).length) (rows ci v) ++ rows ci [u, w]) ++ rows ci h = _
    rw [List.take_of_length_le (i := 0 + (rows ci v).length) (by omega), List.take_of_length_le (by simp [rows])]
    simp only [rows, List.map_append]
theorem rows_dall (l : List Int) (a : Nat) : List.drop a (List.take (rows ci l).length (rows ci l)) = rows ci (l.drop a) := by rw [List.take_length]; simp [rows]
theorem l12Cut_s (k : Int) (l : List Int) (hk : 1 ≤ k ∧ k ≤ 3) (hl : (l.length : Int) = 3 * lenOf k + 3) (n : Nat) (hn : (n : Int) = lenOf k) : Spec ctx 214 [iv .i64 k, sl l none] [] (.tup [.own 0 1 0 n none, .agg [iv .i64 (l.getD n 0), iv .i64 (l.getD (n + 1) 0), .own 1 1 0 (2 * n + 1) none]]) (cownH (l.take n) (l.drop (n + 2))) := by
  have la := rows_len ci l
  have hL := lenOf_le k
  refine spec_mk ctx_mixed ctx_enters 4 Tryz.func214 rfl rfl (Nat.le_of_ble_eq_true rfl) 0 rfl ?_; conv => whnf
  repeat' ((first | (with_reducible first | refine d_chk ?_ | refine Br.tt ?_ | refine Br.ff ?_ | refine Br.beq ?_ | refine Br.bne ?_ | refine Br.nt ?_ | refine Br.nf ?_ | refine d_wrap ?_ | refine d_rem ?_ | refine d_nat ?_ | refine d_get (by omega) ?_ | refine Br.yesd ?_ | refine Br.nod ?_ | refine Br.yesn ?_ | refine Br.nodn ?_ | refine d_le ?_ | refine d_lt ?_ | refine And.intro ?_ ?_ | exact trivial | exact .inr rfl | rfl | refine sc_int | refine sc_bt ?_ | refine sc_bf ?_ | refine sc_bb ?_ | refine sc_bh ?_ | refine sc_ih ?_) | refine callW0 (TypeLenL_s k n (by omega)) rfl trivial ?_ | (refine ⟨n + 1, by omega, ?_⟩) | (refine ⟨n + 2, by omega, ?_⟩) | with_reducible refine d_left [(0, 2), (1, 4)] ?_ ?_ | with_reducible refine Br.dec (fun _ => ?_) (fun _ => ?_) | with_reducible refine Br.decn (fun _ => ?_) (fun _ => ?_) | with_reducible refine d_left [] ?_ ?_ | exact rfl | exact Nat.le_of_ble_eq_true rfl | (refine Nat.le_of_eq ?_; simp [rows, seqI]; done) | refine call_go rfl rfl [] ?_ | (refine Hid.mk ?_; first | decide | omega | (simp <;> omega) | (intro e; subst e; omega) | (intro e; subst e; simp_all; done) | exact Prod.ext (by omega) (by omega))) <;> conv => whnf)
  · intro _; omega
  · show (2 * (0 + (List.drop 0 (List.take n (rows ci l))).length) + 768) * 8 ≤ _
    rw [rows_dt, rows_len, List.length_take]; omega
  · intro _; omega
  · show (2 * (0 + (List.drop (n + 2) (List.take (rows ci l).length (rows ci l))).length) + 768) * 8 ≤ _
    rw [rows_dall, rows_len, List.length_drop]; omega
  · rw [rows_dt, rows_len, List.length_take]; omega
  · exact ⟨(getD_get (by omega)).symm⟩
  · exact ⟨(getD_get (by omega)).symm⟩
  · rw [rows_dall, rows_len, List.length_drop]; omega
  · exact rows_dt _ _
  · exact rows_dall _ _
end Go.Proofs.YtdjoodbidcncaaaGreatDoor.AW

/- The reference's parts of a report. -/
namespace Go.Proofs.YtdjoodbidcncaaaGreatDoor.AW
open Go
set_option maxRecDepth 10000
def most (k : Int) : Int := if k = 1 then 1 else if k = 2 then 3 else 7
theorem l11Most_s (k : Int) (hk : 1 ≤ k ∧ k ≤ 3) : Spec ctx 59 [iv .i64 k] [] (iv .i64 (most k)) [] := by
  obtain rfl | rfl | rfl : k = 1 ∨ k = 2 ∨ k = 3 := by omega
  all_goals
    refine spec_mk ctx_mixed ctx_enters 0 Tryz.func59 rfl rfl (Nat.le_of_ble_eq_true rfl) 0 rfl ?_; conv => whnf
    repeat' ((first | (with_reducible first | refine d_chk ?_ | refine Br.tt ?_ | refine Br.ff ?_ | refine Br.beq ?_ | refine Br.bne ?_ | refine Br.nt ?_ | refine Br.nf ?_ | refine d_wrap ?_ | refine d_rem ?_ | refine d_nat ?_ | refine d_get (by omega) ?_ | refine Br.yesd ?_ | refine Br.nod ?_ | refine Br.yesn ?_ | refine Br.nodn ?_ | refine d_le ?_ | refine d_lt ?_ | refine And.intro ?_ ?_ | exact trivial | exact .inr rfl | rfl | refine sc_int | refine sc_bt ?_ | refine sc_bf ?_ | refine sc_bb ?_ | refine sc_bh ?_ | refine sc_ih ?_) | (refine ⟨1, rfl, ?_⟩) | (refine ⟨2, rfl, ?_⟩) | (refine ⟨3, rfl, ?_⟩) | (refine ⟨_, rfl, ?_⟩) | with_reducible refine Br.dec (fun _ => ?_) (fun _ => ?_) | with_reducible refine Br.decn (fun _ => ?_) (fun _ => ?_) | with_reducible refine d_left [] ?_ ?_ | exact rfl | exact Nat.le_of_ble_eq_true rfl | (refine Nat.le_of_eq ?_; simp [rows, seqI]; done) | refine call_go rfl rfl [] ?_ | (refine Hid.mk ?_; first | decide | omega | (simp <;> omega) | (intro e; subst e; omega) | (intro e; subst e; simp_all; done) | exact Prod.ext (by omega) (by omega))) <;> conv => whnf)
  def l11v (k val : Int) : Nat → Int
  | 0 => val
  | i + 1 => if k = 2 then l11v k val i else l11v k val i / 2
theorem l11v_in {k val : Int} (h : 0 ≤ val ∧ val ≤ 100) : ∀ i, 0 ≤ l11v k val i ∧ l11v k val i ≤ 100
  | 0 => h
  | i + 1 => by
    have := l11v_in (k := k) h i
    rw [l11v]; split <;> omega
def l11c (k val : Int) (i : Nat) : Prop := if k = 2 then (i : Int) = l11v k val i else l11v k val i % 2 = 1
instance (k val : Int) (i : Nat) : Decidable (l11c k val i) := by unfold l11c; infer_instance
def l11mk (k val : Int) (z : List Int) : Nat → List Int
  | 0 => z
  | i + 1 => if l11c k val i then (l11mk k val z i).set i 1 else l11mk k val z i
theorem l11mk_len (k val : Int) (z : List Int) : ∀ i, (l11mk k val z i).length = z.length
  | 0 => rfl
  | i + 1 => by rw [l11mk]; split <;> simp [l11mk_len k val z i]
theorem l11mk_ok {k val : Int} {z : List Int} (h : allE z) : ∀ i, allE (l11mk k val z i)
  | 0 => h
  | i + 1 => by
    rw [l11mk]; split
    · exact allE_set (l11mk_ok h i) ⟨by decide, by decide⟩
    · exact l11mk_ok h i
def l11make (k val : Int) (n : Nat) : List Int := l11mk k val (List.replicate n 0) n
theorem l11make_len (k val : Int) (n : Nat) : (l11make k val n).length = n := by simp [l11make, l11mk_len]
theorem l11make_ok (k val : Int) (n : Nat) : allE (l11make k val n) := l11mk_ok (allE_rep n) n
theorem l11Make_s (k val : Int) (hk : 1 ≤ k ∧ k ≤ 3) (hv : 0 ≤ val ∧ val ≤ 100) (n : Nat) (hn : (n : Int) = lenOf k) : Spec ctx 155 [iv .i64 k, iv .i64 val] [] (.own 0 1 0 n none) [(0, some (.row 1 (rows ci (l11make k val n))))] := by
  have hL := lenOf_le k
  obtain ⟨z, hz⟩ : ∃ z, z = List.replicate n (0 : Int) := ⟨_, rfl⟩
  have zl : z.length = n := by rw [hz]; simp
  have hP : l11make k val n = l11mk k val z n := by rw [l11make, hz]
  rw [hP]
  refine spec_mk ctx_mixed ctx_enters 4 Tryz.func155 rfl rfl (Nat.le_of_ble_eq_true rfl) 0 rfl ?_; conv => whnf
  repeat' ((first | (with_reducible first | refine d_chk ?_ | refine Br.tt ?_ | refine Br.ff ?_ | refine Br.beq ?_ | refine Br.bne ?_ | refine Br.nt ?_ | refine Br.nf ?_ | refine d_wrap ?_ | refine d_rem ?_ | refine d_nat ?_ | refine d_get (by omega) ?_ | refine Br.yesd ?_ | refine Br.nod ?_ | refine Br.yesn ?_ | refine Br.nodn ?_ | refine d_le ?_ | refine d_lt ?_ | refine And.intro ?_ ?_ | exact trivial | exact .inr rfl | rfl | refine sc_int | refine sc_bt ?_ | refine sc_bf ?_ | refine sc_bb ?_ | refine sc_bh ?_ | refine sc_ih ?_) | refine callW0 (TypeLenL_s k n (by omega)) rfl trivial ?_ | (refine ⟨n, by omega, ?_⟩) | with_reducible refine Br.dec (fun _ => ?_) (fun _ => ?_) | with_reducible refine Br.decn (fun _ => ?_) (fun _ => ?_) | with_reducible refine d_left [] ?_ ?_ | exact rfl | exact Nat.le_of_ble_eq_true rfl | (refine Nat.le_of_eq ?_; simp [rows, seqI]; done) | refine call_go rfl rfl [] ?_ | (refine Hid.mk ?_; first | decide | omega | (simp <;> omega) | (intro e; subst e; omega) | (intro e; subst e; simp_all; done) | exact Prod.ext (by omega) (by omega))) <;> conv => whnf)
  refine AW.loopP (fun i : Nat => ⟨[(0, iv .i64 k), (1, iv .i64 (l11v k val i)), (5, .own 0 1 0 n none), (6, iv .i64 i)], [(0, some (.row 1 (rows ci (l11mk k val z i))))], 1⟩) (fun i => i ≤ n ∧ (l11mk k val z i).length = n ∧ (0 ≤ l11v k val i ∧ l11v k val i ≤ 100)) (fun i => n - i) 0 [(0, 0)] (d_sub _ ?_ ?_) ⟨by omega, (l11mk_len _ _ _ _).trans zl, l11v_in hv 0⟩ (fun i ⟨hi, hli, hvi⟩ => (Decidable.em (k = 2)).elim (fun e => (Decidable.em ((i : Int) = l11v k val i)).elim (fun c => ?_) (fun c => ?_)) (fun e => (Decidable.em (l11v k val i % 2 = 1)).elim (fun c => ?_) (fun c => ?_))) <;> (conv => whnf) <;>
  repeat' ((first | (with_reducible first | refine d_chk ?_ | refine Br.tt ?_ | refine Br.ff ?_ | refine Br.beq ?_ | refine Br.bne ?_ | refine Br.nt ?_ | refine Br.nf ?_ | refine d_wrap ?_ | refine d_rem ?_ | refine d_nat ?_ | refine d_get (by omega) ?_ | refine Br.yesd ?_ | refine Br.nod ?_ | refine Br.yesn ?_ | refine Br.nodn ?_ | refine d_le ?_ | refine d_lt ?_ | refine And.intro ?_ ?_ | exact trivial | exact .inr rfl | rfl | refine sc_int | refine sc_bt ?_ | refine sc_bf ?_ | refine sc_bb ?_ | refine sc_bh ?_ | refine sc_ih ?_) | with_reducible refine d_mod ?_ | with_reducible refine d_div ?_ | exact fun h => by cases h | refine d_end (i+1) [(0, 0)] (d_sub _ ?_ ?_) ?_ | with_reducible refine d_left [(0, 0)] ?_ ?_ | with_reducible refine Br.dec (fun _ => ?_) (fun _ => ?_) | with_reducible refine Br.decn (fun _ => ?_) (fun _ => ?_) | with_reducible refine d_left [] ?_ ?_ | exact rfl | exact Nat.le_of_ble_eq_true rfl | (refine Nat.le_of_eq ?_; simp [rows, seqI]; done) | refine call_go rfl rfl [] ?_ | (refine Hid.mk ?_; first | decide | omega | (simp <;> omega) | (intro e; subst e; omega) | (intro e; subst e; simp_all; done) | exact Prod.ext (by omega) (by omega))) <;> conv => whnf)
  all_goals (first | exact .inl rfl | exact ⟨rfl⟩ | (rw [hz]; simp only [l11mk, rows, List.map_replicate]; rfl) | (refine ⟨?_⟩; rw [l11v, if_pos e]; done) | (refine ⟨?_⟩; rw [l11v, if_neg e]; done) | (rw [l11mk, if_pos (by unfold l11c; rw [if_pos e]; exact c)]; exact (rows_set (i := 0 + i) rfl).trans (by rw [Nat.zero_add])) | (rw [l11mk, if_pos (by unfold l11c; rw [if_neg e]; exact c)]; exact (rows_set (i := 0 + i) rfl).trans (by rw [Nat.zero_add])) | (rw [l11mk, if_neg (by unfold l11c; rw [if_pos e]; exact c)]; done) | (rw [l11mk, if_neg (by unfold l11c; rw [if_neg e]; exact c)]; done) | exact ⟨by omega, (l11mk_len _ _ _ _).trans zl, l11v_in hv (i + 1)⟩ | (rw [show i = n by omega]; done) | skip)
theorem TypeMake_s (k val : Int) (hk : 1 ≤ k ∧ k ≤ 3) (hv : 0 ≤ val ∧ val ≤ most k) (n : Nat) (hn : (n : Int) = lenOf k) : Spec ctx 111 [iv .i64 k, iv .i64 val] [] (.tup [.own 0 1 0 n none, bv true]) [(0, some (.row 1 (rows ci (l11make k val n))))] := by
  have hm : most k ≤ 7 := by unfold most; split; omega; split <;> omega
  refine spec_mk ctx_mixed ctx_enters 4 Tryz.func111 rfl rfl (Nat.le_of_ble_eq_true rfl) 0 rfl ?_; conv => whnf
  repeat' ((first | (with_reducible first | refine d_chk ?_ | refine Br.tt ?_ | refine Br.ff ?_ | refine Br.beq ?_ | refine Br.bne ?_ | refine Br.nt ?_ | refine Br.nf ?_ | refine d_wrap ?_ | refine d_rem ?_ | refine d_nat ?_ | refine d_get (by omega) ?_ | refine Br.yesd ?_ | refine Br.nod ?_ | refine Br.yesn ?_ | refine Br.nodn ?_ | refine d_le ?_ | refine d_lt ?_ | refine And.intro ?_ ?_ | exact trivial | exact .inr rfl | rfl | refine sc_int | refine sc_bt ?_ | refine sc_bf ?_ | refine sc_bb ?_ | refine sc_bh ?_ | refine sc_ih ?_) | refine callW0 (l11Kind_s _) rfl trivial ?_ | refine callW0 (l11Most_s k hk) rfl trivial ?_ | refine callW0 (l6In_s _ _ _) rfl trivial ?_ | refine callWn (l11Make_s k val hk (by omega) n hn) 1 rfl ⟨trivial, rows_sc _, trivial⟩ ?_ | with_reducible refine d_left [(0, 0)] ?_ ?_ | with_reducible refine Br.dec (fun _ => ?_) (fun _ => ?_) | with_reducible refine Br.decn (fun _ => ?_) (fun _ => ?_) | with_reducible refine d_left [] ?_ ?_ | exact rfl | exact Nat.le_of_ble_eq_true rfl | (refine Nat.le_of_eq ?_; simp [rows, seqI]; done) | refine call_go rfl rfl [] ?_ | (refine Hid.mk ?_; first | decide | omega | (simp <;> omega) | (intro e; subst e; omega) | (intro e; subst e; simp_all; done) | exact Prod.ext (by omega) (by omega))) <;> conv => whnf)
theorem TypeMake_n (k val : Int) (h : ¬ ((1 ≤ k ∧ k ≤ 3) ∧ 0 ≤ val ∧ val ≤ most k)) : Spec ctx 111 [iv .i64 k, iv .i64 val] [] (.tup [.own 0 1 0 0 none, bv false]) [(0, some (.row 1 []))] := by
  by_cases hk : 1 ≤ k ∧ k ≤ 3
  · refine spec_mk ctx_mixed ctx_enters 4 Tryz.func111 rfl rfl (Nat.le_of_ble_eq_true rfl) 0 rfl ?_; conv => whnf
    repeat' ((first | (with_reducible first | refine d_chk ?_ | refine Br.tt ?_ | refine Br.ff ?_ | refine Br.beq ?_ | refine Br.bne ?_ | refine Br.nt ?_ | refine Br.nf ?_ | refine d_wrap ?_ | refine d_rem ?_ | refine d_nat ?_ | refine d_get (by omega) ?_ | refine Br.yesd ?_ | refine Br.nod ?_ | refine Br.yesn ?_ | refine Br.nodn ?_ | refine d_le ?_ | refine d_lt ?_ | refine And.intro ?_ ?_ | exact trivial | exact .inr rfl | rfl | refine sc_int | refine sc_bt ?_ | refine sc_bf ?_ | refine sc_bb ?_ | refine sc_bh ?_ | refine sc_ih ?_) | refine callW0 (l11Kind_s _) rfl trivial ?_ | refine callW0 (l11Most_s k hk) rfl trivial ?_ | refine callW0 (l6In_s _ _ _) rfl trivial ?_ | with_reducible refine d_left [(0, 0)] ?_ ?_ | exact absurd ⟨hk, by assumption⟩ h | with_reducible refine Br.dec (fun _ => ?_) (fun _ => ?_) | with_reducible refine Br.decn (fun _ => ?_) (fun _ => ?_) | with_reducible refine d_left [] ?_ ?_ | exact rfl | exact Nat.le_of_ble_eq_true rfl | (refine Nat.le_of_eq ?_; simp [rows, seqI]; done) | refine call_go rfl rfl [] ?_ | (refine Hid.mk ?_; first | decide | omega | (simp <;> omega) | (intro e; subst e; omega) | (intro e; subst e; simp_all; done) | exact Prod.ext (by omega) (by omega))) <;> conv => whnf)
    exact .inl rfl
  · refine spec_mk ctx_mixed ctx_enters 4 Tryz.func111 rfl rfl (Nat.le_of_ble_eq_true rfl) 0 rfl ?_; conv => whnf
    repeat' ((first | (with_reducible first | refine d_chk ?_ | refine Br.tt ?_ | refine Br.ff ?_ | refine Br.beq ?_ | refine Br.bne ?_ | refine Br.nt ?_ | refine Br.nf ?_ | refine d_wrap ?_ | refine d_rem ?_ | refine d_nat ?_ | refine d_get (by omega) ?_ | refine Br.yesd ?_ | refine Br.nod ?_ | refine Br.yesn ?_ | refine Br.nodn ?_ | refine d_le ?_ | refine d_lt ?_ | refine And.intro ?_ ?_ | exact trivial | exact .inr rfl | rfl | refine sc_int | refine sc_bt ?_ | refine sc_bf ?_ | refine sc_bb ?_ | refine sc_bh ?_ | refine sc_ih ?_) | refine callW0 (l11Kind_s _) rfl trivial ?_ | with_reducible refine d_left [(0, 0)] ?_ ?_ | with_reducible refine Br.dec (fun _ => ?_) (fun _ => ?_) | with_reducible refine Br.decn (fun _ => ?_) (fun _ => ?_) | with_reducible refine d_left [] ?_ ?_ | exact rfl | exact Nat.le_of_ble_eq_true rfl | (refine Nat.le_of_eq ?_; simp [rows, seqI]; done) | refine call_go rfl rfl [] ?_ | (refine Hid.mk ?_; first | decide | omega | (simp <;> omega) | (intro e; subst e; omega) | (intro e; subst e; simp_all; done) | exact Prod.ext (by omega) (by omega))) <;> conv => whnf)
    exact .inl rfl
end Go.Proofs.YtdjoodbidcncaaaGreatDoor.AW

/- The reference's parts of a report: made. -/
namespace Go.Proofs.YtdjoodbidcncaaaGreatDoor.AW
open Go
set_option maxRecDepth 10000
theorem zipE_ok {f : Int → Int → Int} (hf : ∀ x y, okE (f x y)) (xs ys : List Int) : allE (zipE f xs ys) := fun x hx => by
  unfold zipE at hx
  obtain ⟨i, hi, rfl⟩ := List.getElem_of_mem hx
  simp only [List.getElem_zipWith]
  exact hf _ _
theorem sShareMake_s (v d : List Int) (hv : allE v) (hd : allE d) (hl : v.length = d.length) (h1 : v.length ≤ 20) : Spec ctx 160 [sl v none, sl d none] [] (.tup [.own 0 1 0 v.length none, .own 1 1 0 v.length none, bv true]) (cownH (zipE fdif v d) d) := by
  have la := rows_len ci v
  have lb := rows_len ci d
  have s1 := sShareOk_s v (by omega)
  have s2 := sShareOk_s d (by omega)
  rw [decide_eq_true ⟨by omega, hv⟩] at s1
  rw [decide_eq_true ⟨by omega, hd⟩] at s2
  refine spec_mk ctx_mixed ctx_enters 9 Tryz.func160 rfl rfl (Nat.le_of_ble_eq_true rfl) 0 rfl ?_; conv => whnf
  repeat' ((first | (with_reducible first | refine d_chk ?_ | refine Br.tt ?_ | refine Br.ff ?_ | refine Br.beq ?_ | refine Br.bne ?_ | refine Br.nt ?_ | refine Br.nf ?_ | refine d_wrap ?_ | refine d_rem ?_ | refine d_nat ?_ | refine d_get (by omega) ?_ | refine Br.yesd ?_ | refine Br.nod ?_ | refine Br.yesn ?_ | refine Br.nodn ?_ | refine d_le ?_ | refine d_lt ?_ | refine And.intro ?_ ?_ | exact trivial | exact .inr rfl | rfl | refine sc_int | refine sc_bt ?_ | refine sc_bf ?_ | refine sc_bb ?_ | refine sc_bh ?_ | refine sc_ih ?_) | refine callW0 s1 rfl trivial ?_ | refine callW0 s2 rfl trivial ?_ | refine callWn (l3Dif_s v d hl (by omega)) 1 rfl ⟨trivial, rows_sc _, trivial⟩ ?_ | with_reducible refine d_left [(0, 0), (1, 2)] ?_ ?_ | (show (2 * (0 + (rows ci d).length) + 768) * 8 ≤ 281474976710656; omega) | with_reducible refine Br.dec (fun _ => ?_) (fun _ => ?_) | with_reducible refine Br.decn (fun _ => ?_) (fun _ => ?_) | with_reducible refine d_left [] ?_ ?_ | exact rfl | exact Nat.le_of_ble_eq_true rfl | (refine Nat.le_of_eq ?_; simp [rows, seqI]; done) | refine call_go rfl rfl [] ?_ | (refine Hid.mk ?_; first | decide | omega | (simp <;> omega) | (intro e; subst e; omega) | (intro e; subst e; simp_all; done) | exact Prod.ext (by omega) (by omega))) <;> conv => whnf)
  · rw [lb]; omega
abbrev pownA (id k s : Int) (b n : Nat) : AV := .agg [iv .i64 id, iv .i64 k, iv .i64 s, .own b 1 0 n none]
theorem PartsOf_s (id k : Int) (l d : List Int) (hl : l.length = d.length) (ho : allE l) (hA : PrOk ⟨id, k, 1, zipE fdif l d⟩) (hB : PrOk ⟨id, k, 2, d⟩) : Spec ctx 114 [iv .i64 id, iv .i64 k, sl l none, sl d none] [] (.tup [pownA id k 1 0 l.length, pownA id k 2 1 l.length, bv true]) (cownH (zipE fdif l d) d) := by
  have hk := plen_le k
  have h4 := hB.2.2.2.1
  have h5 : d.length ≤ 15 := by show d.length ≤ 15; have : (d.length : Int) = plen k := h4; omega
  have lz := zipE_len (f := fdif) hl
  have s1 := sShareMake_s l d ho hB.2.2.2.2 hl (by omega)
  have s2 := sPartOk_s ⟨id, k, 1, zipE fdif l d⟩ (by show (zipE fdif l d).length ≤ _; omega)
  have s3 := sPartOk_s ⟨id, k, 2, d⟩ (by show d.length ≤ _; omega)
  rw [decide_eq_true hA] at s2
  rw [decide_eq_true hB] at s3
  refine spec_mk ctx_mixed ctx_enters 9 Tryz.func114 rfl rfl (Nat.le_of_ble_eq_true rfl) 0 rfl ?_; conv => whnf
  repeat' ((first | (with_reducible first | refine d_chk ?_ | refine Br.tt ?_ | refine Br.ff ?_ | refine Br.beq ?_ | refine Br.bne ?_ | refine Br.nt ?_ | refine Br.nf ?_ | refine d_wrap ?_ | refine d_rem ?_ | refine d_nat ?_ | refine d_get (by omega) ?_ | refine Br.yesd ?_ | refine Br.nod ?_ | refine Br.yesn ?_ | refine Br.nodn ?_ | refine d_le ?_ | refine d_lt ?_ | refine And.intro ?_ ?_ | exact trivial | exact .inr rfl | rfl | refine sc_int | refine sc_bt ?_ | refine sc_bf ?_ | refine sc_bb ?_ | refine sc_bh ?_ | refine sc_ih ?_) | refine callWn s1 2 rfl ⟨⟨trivial, trivial, trivial, trivial⟩, rows_sc _, rows_sc _, trivial⟩ ?_ | (refine callWl (f := 20) s2 trivial ?_ ?_; focus ((repeat' (first | exact trivial | exact rfl | exact .inr rfl | exact .inl rfl | exact rows_al' _ _ lz | refine And.intro ?_ ?_)); done)) | (refine callWl (f := 20) s3 trivial ?_ ?_; focus ((repeat' (first | exact trivial | exact rfl | exact .inr rfl | exact .inl rfl | exact rows_al' _ _ hl.symm | refine And.intro ?_ ?_)); done)) | with_reducible refine d_left [(0, 2), (1, 3)] ?_ ?_ | with_reducible refine Br.dec (fun _ => ?_) (fun _ => ?_) | with_reducible refine Br.decn (fun _ => ?_) (fun _ => ?_) | with_reducible refine d_left [] ?_ ?_ | exact rfl | exact Nat.le_of_ble_eq_true rfl | (refine Nat.le_of_eq ?_; simp [rows, seqI]; done) | refine call_go rfl rfl [] ?_ | (refine Hid.mk ?_; first | decide | omega | (simp <;> omega) | (intro e; subst e; omega) | (intro e; subst e; simp_all; done) | exact Prod.ext (by omega) (by omega))) <;> conv => whnf)
  · show 0 + l.length ≤ _
    rw [rows_len]; omega
  · show 0 + l.length ≤ _
    rw [rows_len]; omega
def pmL (k val seed : Int) (n : Nat) : List Int := l11make k val n ++ [l4at seed 19, l4at seed 20] ++ l12H (l11make k val n) (l4at seed 19) (l4at seed 20)
theorem pmL_len (k val seed : Int) (n : Nat) : (pmL k val seed n).length = 3 * n + 3 := by
  simp only [pmL, List.length_append, List.length_cons, List.length_nil, l12H_len, l11make_len]; omega
theorem allE_apps {a b : List Int} (ha : allE a) (hb : allE b) : allE (a ++ b) := fun x hx => (List.mem_append.1 hx).elim (ha x) (hb x)
theorem pmL_ok (k val seed : Int) (n : Nat) : allE (pmL k val seed n) := allE_apps (allE_apps (l11make_ok _ _ _) (fun x hx => by
  simp only [List.mem_cons, List.not_mem_nil, or_false] at hx
  rcases hx with rfl | rfl <;> exact l4at_ok _ _)) (l12H_ok _ _ _)
/-- the parts of a report: what is made -/
def pmA (id k val seed : Int) (n : Nat) : Prt := ⟨id, k, 1, zipE fdif (pmL k val seed n) (l4vec seed (3 * n + 3))⟩
def pmB (id k val seed : Int) (n : Nat) : Prt := ⟨id, k, 2, l4vec seed (3 * n + 3)⟩
theorem pmA_ok {id k val seed : Int} {n : Nat} (hi : idO id) (hk : 1 ≤ k ∧ k ≤ 3) (hn : (n : Int) = lenOf k) : PrOk (pmA id k val seed n) :=
  ⟨hi, hk, (by decide : (1 : Int) ≤ 1 ∧ (1 : Int) ≤ 2), by show ((zipE fdif _ _).length : Int) = plen k; rw [zipE_len (by rw [pmL_len, l4vec_len]), pmL_len]; unfold plen; rw [if_pos hk]; omega, zipE_ok fdif_ok _ _⟩
theorem pmB_ok {id k val seed : Int} {n : Nat} (hi : idO id) (hk : 1 ≤ k ∧ k ≤ 3) (hn : (n : Int) = lenOf k) : PrOk (pmB id k val seed n) :=
  ⟨hi, hk, (by decide : (1 : Int) ≤ 2 ∧ (2 : Int) ≤ 2), by show ((l4vec _ _).length : Int) = plen k; rw [l4vec_len]; unfold plen; rw [if_pos hk]; omega, l4vec_ok _ _⟩
theorem PartsMake_s (id k val seed : Int) (hi : idO id) (hk : 1 ≤ k ∧ k ≤ 3) (hv : 0 ≤ val ∧ val ≤ most k) (hs : 0 ≤ seed ∧ seed ≤ 999) (n : Nat) (hn : (n : Int) = lenOf k) : Spec ctx 58 [iv .i64 id, iv .i64 k, iv .i64 val, iv .i64 seed] [] (.tup [pownA id k 1 0 (3 * n + 3), pownA id k 2 1 (3 * n + 3), bv true]) (cownH (pmA id k val seed n).list (pmB id k val seed n).list) := by
  have hL := lenOf_le k
  have lm := l11make_len k val n
  have s1 := l12Make_s (l11make k val n) (l4at seed 19) (l4at seed 20) (l11make_ok _ _ _) (l4at_ok _ _) (l4at_ok _ _) (by omega)
  have s2 := l12All_s (l11make k val n) (l12H (l11make k val n) (l4at seed 19) (l4at seed 20)) (l4at seed 19) (l4at seed 20) (by omega) (by rw [l12H_len]; omega)
  have s3 := PartsOf_s id k (pmL k val seed n) (l4vec seed (3 * n + 3)) (by rw [pmL_len, l4vec_len]) (pmL_ok _ _ _ _) (pmA_ok hi hk hn) (pmB_ok (val := val) hi hk hn)
  have lh := l12H_len (l11make k val n) (l4at seed 19) (l4at seed 20)
  have lp := pmL_len k val seed n
  have e1 : (if 1 ≤ k ∧ k ≤ 3 then 3 * lenOf k + 3 else 0) = ((3 * n + 3 : Nat) : Int) := by rw [if_pos hk]; omega
  have s4 := sProofLen_s k
  rw [e1] at s4
  rw [lp] at s3
  rw [lm] at s1
  rw [lm, lh, lm, show n + 2 + (2 * n + 1) = 3 * n + 3 by omega] at s2
  refine spec_mk ctx_mixed ctx_enters 9 Tryz.func58 rfl rfl (Nat.le_of_ble_eq_true rfl) 0 rfl ?_; conv => whnf
  repeat' ((first | (with_reducible first | refine d_chk ?_ | refine Br.tt ?_ | refine Br.ff ?_ | refine Br.beq ?_ | refine Br.bne ?_ | refine Br.nt ?_ | refine Br.nf ?_ | refine d_wrap ?_ | refine d_rem ?_ | refine d_nat ?_ | refine d_get (by omega) ?_ | refine Br.yesd ?_ | refine Br.nod ?_ | refine Br.yesn ?_ | refine Br.nodn ?_ | refine d_le ?_ | refine d_lt ?_ | refine And.intro ?_ ?_ | exact trivial | exact .inr rfl | rfl | refine sc_int | refine sc_bt ?_ | refine sc_bf ?_ | refine sc_bb ?_ | refine sc_bh ?_ | refine sc_ih ?_) | refine callW0 (l6In_s _ _ _) rfl trivial ?_ | refine callWn (TypeMake_s k val hk hv n hn) 1 rfl ⟨⟨trivial, trivial, trivial⟩, rows_sc _, trivial⟩ ?_ | refine callW0 (l4At_s seed 19 hs (by decide)) rfl trivial ?_ | refine callW0 (l4At_s seed 20 hs (by decide)) rfl trivial ?_ | (refine callWln (f := 112) s1 1 ⟨⟨trivial, trivial, trivial, trivial⟩, rows_sc _, trivial⟩ ?_ ?_; focus ((repeat' (first | exact trivial | exact rfl | exact .inr rfl | exact .inl rfl | exact rows_al' _ _ lm | refine And.intro ?_ ?_)); done)) | (refine callWln (f := 115) s2 1 ⟨trivial, rows_sc _, trivial⟩ ?_ ?_; focus ((repeat' (first | exact trivial | exact rfl | exact .inr rfl | exact .inl rfl | first | exact rows_al' _ _ lm | exact rows_al' _ _ (lh.trans (by rw [lm])) | refine And.intro ?_ ?_)); done)) | refine callW0 s4 rfl trivial ?_ | refine callWn (l4Vec_s seed (3 * n + 3) hs (by omega)) 1 rfl ⟨trivial, rows_sc _, trivial⟩ ?_ | (refine callWln (f := 114) s3 2 ⟨⟨⟨trivial, trivial, trivial, trivial, trivial⟩, ⟨trivial, trivial, trivial, trivial, trivial⟩, trivial, trivial⟩, rows_sc _, rows_sc _, trivial⟩ ?_ ?_; focus ((repeat' (first | exact trivial | exact rfl | exact .inr rfl | exact .inl rfl | first | exact rows_al' _ _ lp | exact rows_al' _ _ (l4vec_len _ _) | refine And.intro ?_ ?_)); done)) | with_reducible refine d_left [(0, 7), (1, 8)] ?_ ?_ | with_reducible refine Br.dec (fun _ => ?_) (fun _ => ?_) | with_reducible refine Br.decn (fun _ => ?_) (fun _ => ?_) | with_reducible refine d_left [] ?_ ?_ | exact rfl | exact Nat.le_of_ble_eq_true rfl | (refine Nat.le_of_eq ?_; simp [rows, seqI]; done) | refine call_go rfl rfl [] ?_ | (refine Hid.mk ?_; first | decide | omega | (simp <;> omega) | (intro e; subst e; omega) | (intro e; subst e; simp_all; done) | exact Prod.ext (by omega) (by omega))) <;> conv => whnf)
  all_goals (first | (show 0 + n ≤ _; rw [rows_len]; omega) | (show 0 + (2 * n + 1) ≤ _; rw [rows_len]; omega) | (show 0 + (3 * n + 3) ≤ _; rw [rows_len]; first | omega | (rw [l4vec_len]; omega)) | (show 0 + (3 * n + 3) ≤ (rows ci (pmL k val seed n)).length; rw [rows_len, pmL_len]; omega))
theorem PartsMake_n (id k val seed : Int) (h : ¬ ((1 ≤ k ∧ k ≤ 3) ∧ 0 ≤ val ∧ val ≤ most k)) : Spec ctx 58 [iv .i64 id, iv .i64 k, iv .i64 val, iv .i64 seed] [] (.tup [.agg [iv .i64 0, iv .i64 0, iv .i64 0, nilS], .agg [iv .i64 0, iv .i64 0, iv .i64 0, nilS], bv false]) [] := by
  refine spec_mk ctx_mixed ctx_enters 0 Tryz.func58 rfl rfl (Nat.le_of_ble_eq_true rfl) 0 rfl ?_; conv => whnf
  repeat' ((first | (with_reducible first | refine d_chk ?_ | refine Br.tt ?_ | refine Br.ff ?_ | refine Br.beq ?_ | refine Br.bne ?_ | refine Br.nt ?_ | refine Br.nf ?_ | refine d_wrap ?_ | refine d_rem ?_ | refine d_nat ?_ | refine d_get (by omega) ?_ | refine Br.yesd ?_ | refine Br.nod ?_ | refine Br.yesn ?_ | refine Br.nodn ?_ | refine d_le ?_ | refine d_lt ?_ | refine And.intro ?_ ?_ | exact trivial | exact .inr rfl | rfl | refine sc_int | refine sc_bt ?_ | refine sc_bf ?_ | refine sc_bb ?_ | refine sc_bh ?_ | refine sc_ih ?_) | refine callWn (TypeMake_n k val h) 1 rfl ⟨⟨trivial, trivial, trivial⟩, rows_sc [], trivial⟩ ?_ | with_reducible refine Br.dec (fun _ => ?_) (fun _ => ?_) | with_reducible refine Br.decn (fun _ => ?_) (fun _ => ?_) | with_reducible refine d_left [] ?_ ?_ | exact rfl | exact Nat.le_of_ble_eq_true rfl | (refine Nat.le_of_eq ?_; simp [rows, seqI]; done) | refine call_go rfl rfl [] ?_ | (refine Hid.mk ?_; first | decide | omega | (simp <;> omega) | (intro e; subst e; omega) | (intro e; subst e; simp_all; done) | exact Prod.ext (by omega) (by omega))) <;> conv => whnf)
  all_goals trace_state
end Go.Proofs.YtdjoodbidcncaaaGreatDoor.AW

/- The reference draws: numbers, kinds, values, parts. -/
namespace Go.Proofs.YtdjoodbidcncaaaGreatDoor.AW
open Go
set_option maxRecDepth 10000
theorem l91Num_e (B : List Nat) (k : Nat) (hB : Bytes B) (hk : k ≤ 90000) : ∃ (x : Int) (k' : Nat), (k ≤ k' ∧ k' ≤ k + 4) ∧ (-1 ≤ x ∧ x ≤ 31) ∧ Spec ctx 110 [.ptr 0 2 0 0] [rd B k] (iv .i64 x) [(0, some (rd B k'))] := by
  obtain ⟨x1, a1, -, s1⟩ := pick_e B k 10 hB (by omega)
  obtain ⟨x2, a2, -, s2⟩ := pick_e B (k + 1) 2 hB (by omega)
  obtain ⟨x3, a3, -, s3⟩ := pick_e B (k + 1) 5 hB (by omega)
  obtain ⟨x4, a4, -, s4⟩ := pick_e B (k + 1 + 1) 2 hB (by omega)
  obtain ⟨x5, a5, -, s5⟩ := pick_e B (k + 1 + 1) 31 hB (by omega)
  obtain ⟨x6, a6, -, s6⟩ := pick_e B (k + 1) 31 hB (by omega)
  by_cases c0 : x1 = 0
  · refine ⟨0, k + 1, by omega, by omega, ?_⟩
    refine spec_mk ctx_mixed ctx_enters 1 Tryz.func110 rfl rfl (Nat.le_of_ble_eq_true rfl) 1 rfl ?_; conv => whnf
    repeat' ((first | (with_reducible first | refine d_chk ?_ | refine Br.tt ?_ | refine Br.ff ?_ | refine Br.beq ?_ | refine Br.bne ?_ | refine Br.nt ?_ | refine Br.nf ?_ | refine d_wrap ?_ | refine d_rem ?_ | refine d_nat ?_ | refine d_get (by omega) ?_ | refine Br.yesd ?_ | refine Br.nod ?_ | refine Br.yesn ?_ | refine Br.nodn ?_ | refine d_le ?_ | refine d_lt ?_ | refine And.intro ?_ ?_ | exact trivial | exact .inr rfl | rfl | refine sc_int | refine sc_bt ?_ | refine sc_bf ?_ | refine sc_bb ?_ | refine sc_bh ?_ | refine sc_ih ?_) | (refine call_go (f := 56) rfl rfl [0] ?_; (conv => whnf); refine callWp s1 ?_ ?_; focus ((repeat' (first | exact trivial | exact rfl | exact .inr rfl | exact .inl rfl | refine And.intro ?_ ?_)); done)) | with_reducible refine d_left [(0, 0)] ?_ ?_ | with_reducible refine Br.dec (fun _ => ?_) (fun _ => ?_) | with_reducible refine Br.decn (fun _ => ?_) (fun _ => ?_) | with_reducible refine d_left [] ?_ ?_ | exact rfl | exact Nat.le_of_ble_eq_true rfl | (refine Nat.le_of_eq ?_; simp [rows, seqI]; done) | refine call_go rfl rfl [] ?_ | (refine Hid.mk ?_; first | decide | omega | (simp <;> omega) | (intro e; subst e; omega) | (intro e; subst e; simp_all; done) | exact Prod.ext (by omega) (by omega))) <;> conv => whnf)
  by_cases c1 : x1 = 1
  · refine ⟨if x2 = 0 then 1 else 30, k + 1 + 1, by omega, by split <;> omega, ?_⟩
    rcases (show x2 = 0 ∨ x2 = 1 by omega) with e | e <;> subst e
    all_goals
      refine spec_mk ctx_mixed ctx_enters 1 Tryz.func110 rfl rfl (Nat.le_of_ble_eq_true rfl) 1 rfl ?_; conv => whnf
      repeat' ((first | (with_reducible first | refine d_chk ?_ | refine Br.tt ?_ | refine Br.ff ?_ | refine Br.beq ?_ | refine Br.bne ?_ | refine Br.nt ?_ | refine Br.nf ?_ | refine d_wrap ?_ | refine d_rem ?_ | refine d_nat ?_ | refine d_get (by omega) ?_ | refine Br.yesd ?_ | refine Br.nod ?_ | refine Br.yesn ?_ | refine Br.nodn ?_ | refine d_le ?_ | refine d_lt ?_ | refine And.intro ?_ ?_ | exact trivial | exact .inr rfl | rfl | refine sc_int | refine sc_bt ?_ | refine sc_bf ?_ | refine sc_bb ?_ | refine sc_bh ?_ | refine sc_ih ?_) | (refine call_go (f := 56) rfl rfl [0] ?_; (conv => whnf); refine callWp s1 ?_ ?_; focus ((repeat' (first | exact trivial | exact rfl | exact .inr rfl | exact .inl rfl | refine And.intro ?_ ?_)); done)) | (refine call_go (f := 56) rfl rfl [0] ?_; (conv => whnf); refine callWp s2 ?_ ?_; focus ((repeat' (first | exact trivial | exact rfl | exact .inr rfl | exact .inl rfl | refine And.intro ?_ ?_)); done)) | (refine ⟨0, rfl, ?_⟩) | (refine ⟨1, rfl, ?_⟩) | (refine ⟨_, rfl, ?_⟩) | with_reducible refine d_left [(0, 0)] ?_ ?_ | with_reducible refine Br.dec (fun _ => ?_) (fun _ => ?_) | with_reducible refine Br.decn (fun _ => ?_) (fun _ => ?_) | with_reducible refine d_left [] ?_ ?_ | exact rfl | exact Nat.le_of_ble_eq_true rfl | (refine Nat.le_of_eq ?_; simp [rows, seqI]; done) | refine call_go rfl rfl [] ?_ | (refine Hid.mk ?_; first | decide | omega | (simp <;> omega) | (intro e; subst e; omega) | (intro e; subst e; simp_all; done) | exact Prod.ext (by omega) (by omega))) <;> conv => whnf)
  by_cases c2 : x1 = 2
  · by_cases c3 : x3 = 0
    · refine ⟨if x4 = 0 then -1 else 31, k + 1 + 1 + 1, by omega, by split <;> omega, ?_⟩
      rcases (show x4 = 0 ∨ x4 = 1 by omega) with e | e <;> subst e
      all_goals
        refine spec_mk ctx_mixed ctx_enters 1 Tryz.func110 rfl rfl (Nat.le_of_ble_eq_true rfl) 1 rfl ?_; conv => whnf
        repeat' ((first | (with_reducible first | refine d_chk ?_ | refine Br.tt ?_ | refine Br.ff ?_ | refine Br.beq ?_ | refine Br.bne ?_ | refine Br.nt ?_ | refine Br.nf ?_ | refine d_wrap ?_ | refine d_rem ?_ | refine d_nat ?_ | refine d_get (by omega) ?_ | refine Br.yesd ?_ | refine Br.nod ?_ | refine Br.yesn ?_ | refine Br.nodn ?_ | refine d_le ?_ | refine d_lt ?_ | refine And.intro ?_ ?_ | exact trivial | exact .inr rfl | rfl | refine sc_int | refine sc_bt ?_ | refine sc_bf ?_ | refine sc_bb ?_ | refine sc_bh ?_ | refine sc_ih ?_) | (refine call_go (f := 56) rfl rfl [0] ?_; (conv => whnf); refine callWp s1 ?_ ?_; focus ((repeat' (first | exact trivial | exact rfl | exact .inr rfl | exact .inl rfl | refine And.intro ?_ ?_)); done)) | (refine call_go (f := 56) rfl rfl [0] ?_; (conv => whnf); refine callWp s3 ?_ ?_; focus ((repeat' (first | exact trivial | exact rfl | exact .inr rfl | exact .inl rfl | refine And.intro ?_ ?_)); done)) | (refine call_go (f := 56) rfl rfl [0] ?_; (conv => whnf); refine callWp s4 ?_ ?_; focus ((repeat' (first | exact trivial | exact rfl | exact .inr rfl | exact .inl rfl | refine And.intro ?_ ?_)); done)) | (refine ⟨0, rfl, ?_⟩) | (refine ⟨1, rfl, ?_⟩) | (refine ⟨_, rfl, ?_⟩) | with_reducible refine d_left [(0, 0)] ?_ ?_ | with_reducible refine Br.dec (fun _ => ?_) (fun _ => ?_) | with_reducible refine Br.decn (fun _ => ?_) (fun _ => ?_) | with_reducible refine d_left [] ?_ ?_ | exact rfl | exact Nat.le_of_ble_eq_true rfl | (refine Nat.le_of_eq ?_; simp [rows, seqI]; done) | refine call_go rfl rfl [] ?_ | (refine Hid.mk ?_; first | decide | omega | (simp <;> omega) | (intro e; subst e; omega) | (intro e; subst e; simp_all; done) | exact Prod.ext (by omega) (by omega))) <;> conv => whnf)
    · refine ⟨x5, k + 1 + 1 + 1, by omega, by omega, ?_⟩
      refine spec_mk ctx_mixed ctx_enters 1 Tryz.func110 rfl rfl (Nat.le_of_ble_eq_true rfl) 1 rfl ?_; conv => whnf
      repeat' ((first | (with_reducible first | refine d_chk ?_ | refine Br.tt ?_ | refine Br.ff ?_ | refine Br.beq ?_ | refine Br.bne ?_ | refine Br.nt ?_ | refine Br.nf ?_ | refine d_wrap ?_ | refine d_rem ?_ | refine d_nat ?_ | refine d_get (by omega) ?_ | refine Br.yesd ?_ | refine Br.nod ?_ | refine Br.yesn ?_ | refine Br.nodn ?_ | refine d_le ?_ | refine d_lt ?_ | refine And.intro ?_ ?_ | exact trivial | exact .inr rfl | rfl | refine sc_int | refine sc_bt ?_ | refine sc_bf ?_ | refine sc_bb ?_ | refine sc_bh ?_ | refine sc_ih ?_) | (refine call_go (f := 56) rfl rfl [0] ?_; (conv => whnf); refine callWp s1 ?_ ?_; focus ((repeat' (first | exact trivial | exact rfl | exact .inr rfl | exact .inl rfl | refine And.intro ?_ ?_)); done)) | (refine call_go (f := 56) rfl rfl [0] ?_; (conv => whnf); refine callWp s3 ?_ ?_; focus ((repeat' (first | exact trivial | exact rfl | exact .inr rfl | exact .inl rfl | refine And.intro ?_ ?_)); done)) | (refine call_go (f := 56) rfl rfl [0] ?_; (conv => whnf); refine callWp s5 ?_ ?_; focus ((repeat' (first | exact trivial | exact rfl | exact .inr rfl | exact .inl rfl | refine And.intro ?_ ?_)); done)) | with_reducible refine d_left [(0, 0)] ?_ ?_ | with_reducible refine Br.dec (fun _ => ?_) (fun _ => ?_) | with_reducible refine Br.decn (fun _ => ?_) (fun _ => ?_) | with_reducible refine d_left [] ?_ ?_ | exact rfl | exact Nat.le_of_ble_eq_true rfl | (refine Nat.le_of_eq ?_; simp [rows, seqI]; done) | refine call_go rfl rfl [] ?_ | (refine Hid.mk ?_; first | decide | omega | (simp <;> omega) | (intro e; subst e; omega) | (intro e; subst e; simp_all; done) | exact Prod.ext (by omega) (by omega))) <;> conv => whnf)
  refine ⟨x6, k + 1 + 1, by omega, by omega, ?_⟩
  refine spec_mk ctx_mixed ctx_enters 1 Tryz.func110 rfl rfl (Nat.le_of_ble_eq_true rfl) 1 rfl ?_; conv => whnf
  repeat' ((first | (with_reducible first | refine d_chk ?_ | refine Br.tt ?_ | refine Br.ff ?_ | refine Br.beq ?_ | refine Br.bne ?_ | refine Br.nt ?_ | refine Br.nf ?_ | refine d_wrap ?_ | refine d_rem ?_ | refine d_nat ?_ | refine d_get (by omega) ?_ | refine Br.yesd ?_ | refine Br.nod ?_ | refine Br.yesn ?_ | refine Br.nodn ?_ | refine d_le ?_ | refine d_lt ?_ | refine And.intro ?_ ?_ | exact trivial | exact .inr rfl | rfl | refine sc_int | refine sc_bt ?_ | refine sc_bf ?_ | refine sc_bb ?_ | refine sc_bh ?_ | refine sc_ih ?_) | (refine call_go (f := 56) rfl rfl [0] ?_; (conv => whnf); refine callWp s1 ?_ ?_; focus ((repeat' (first | exact trivial | exact rfl | exact .inr rfl | exact .inl rfl | refine And.intro ?_ ?_)); done)) | (refine call_go (f := 56) rfl rfl [0] ?_; (conv => whnf); refine callWp s6 ?_ ?_; focus ((repeat' (first | exact trivial | exact rfl | exact .inr rfl | exact .inl rfl | refine And.intro ?_ ?_)); done)) | with_reducible refine d_left [(0, 0)] ?_ ?_ | with_reducible refine Br.dec (fun _ => ?_) (fun _ => ?_) | with_reducible refine Br.decn (fun _ => ?_) (fun _ => ?_) | with_reducible refine d_left [] ?_ ?_ | exact rfl | exact Nat.le_of_ble_eq_true rfl | (refine Nat.le_of_eq ?_; simp [rows, seqI]; done) | refine call_go rfl rfl [] ?_ | (refine Hid.mk ?_; first | decide | omega | (simp <;> omega) | (intro e; subst e; omega) | (intro e; subst e; simp_all; done) | exact Prod.ext (by omega) (by omega))) <;> conv => whnf)
theorem l91Kind_e (B : List Nat) (k : Nat) (hB : Bytes B) (hk : k ≤ 90000) : ∃ (x : Int) (k' : Nat), (k ≤ k' ∧ k' ≤ k + 2) ∧ (0 ≤ x ∧ x ≤ 4) ∧ Spec ctx 84 [.ptr 0 2 0 0] [rd B k] (iv .i64 x) [(0, some (rd B k'))] := by
  obtain ⟨x1, a1, -, s1⟩ := pick_e B k 60 hB (by omega)
  obtain ⟨x2, a2, -, s2⟩ := pick_e B (k + 1) 2 hB (by omega)
  obtain ⟨x3, a3, -, s3⟩ := pick_e B (k + 1) 3 hB (by omega)
  by_cases c0 : x1 = 0
  · refine ⟨if x2 = 0 then 0 else 4, k + 1 + 1, by omega, by split <;> omega, ?_⟩
    rcases (show x2 = 0 ∨ x2 = 1 by omega) with e | e <;> subst e
    all_goals
      refine spec_mk ctx_mixed ctx_enters 1 Tryz.func84 rfl rfl (Nat.le_of_ble_eq_true rfl) 1 rfl ?_; conv => whnf
      repeat' ((first | (with_reducible first | refine d_chk ?_ | refine Br.tt ?_ | refine Br.ff ?_ | refine Br.beq ?_ | refine Br.bne ?_ | refine Br.nt ?_ | refine Br.nf ?_ | refine d_wrap ?_ | refine d_rem ?_ | refine d_nat ?_ | refine d_get (by omega) ?_ | refine Br.yesd ?_ | refine Br.nod ?_ | refine Br.yesn ?_ | refine Br.nodn ?_ | refine d_le ?_ | refine d_lt ?_ | refine And.intro ?_ ?_ | exact trivial | exact .inr rfl | rfl | refine sc_int | refine sc_bt ?_ | refine sc_bf ?_ | refine sc_bb ?_ | refine sc_bh ?_ | refine sc_ih ?_) | (refine call_go (f := 56) rfl rfl [0] ?_; (conv => whnf); refine callWp s1 ?_ ?_; focus ((repeat' (first | exact trivial | exact rfl | exact .inr rfl | exact .inl rfl | refine And.intro ?_ ?_)); done)) | (refine call_go (f := 56) rfl rfl [0] ?_; (conv => whnf); refine callWp s2 ?_ ?_; focus ((repeat' (first | exact trivial | exact rfl | exact .inr rfl | exact .inl rfl | refine And.intro ?_ ?_)); done)) | (refine ⟨0, rfl, ?_⟩) | (refine ⟨1, rfl, ?_⟩) | (refine ⟨_, rfl, ?_⟩) | with_reducible refine d_left [(0, 0)] ?_ ?_ | with_reducible refine Br.dec (fun _ => ?_) (fun _ => ?_) | with_reducible refine Br.decn (fun _ => ?_) (fun _ => ?_) | with_reducible refine d_left [] ?_ ?_ | exact rfl | exact Nat.le_of_ble_eq_true rfl | (refine Nat.le_of_eq ?_; simp [rows, seqI]; done) | refine call_go rfl rfl [] ?_ | (refine Hid.mk ?_; first | decide | omega | (simp <;> omega) | (intro e; subst e; omega) | (intro e; subst e; simp_all; done) | exact Prod.ext (by omega) (by omega))) <;> conv => whnf)
  refine ⟨1 + x3, k + 1 + 1, by omega, by omega, ?_⟩
  refine spec_mk ctx_mixed ctx_enters 1 Tryz.func84 rfl rfl (Nat.le_of_ble_eq_true rfl) 1 rfl ?_; conv => whnf
  repeat' ((first | (with_reducible first | refine d_chk ?_ | refine Br.tt ?_ | refine Br.ff ?_ | refine Br.beq ?_ | refine Br.bne ?_ | refine Br.nt ?_ | refine Br.nf ?_ | refine d_wrap ?_ | refine d_rem ?_ | refine d_nat ?_ | refine d_get (by omega) ?_ | refine Br.yesd ?_ | refine Br.nod ?_ | refine Br.yesn ?_ | refine Br.nodn ?_ | refine d_le ?_ | refine d_lt ?_ | refine And.intro ?_ ?_ | exact trivial | exact .inr rfl | rfl | refine sc_int | refine sc_bt ?_ | refine sc_bf ?_ | refine sc_bb ?_ | refine sc_bh ?_ | refine sc_ih ?_) | (refine call_go (f := 56) rfl rfl [0] ?_; (conv => whnf); refine callWp s1 ?_ ?_; focus ((repeat' (first | exact trivial | exact rfl | exact .inr rfl | exact .inl rfl | refine And.intro ?_ ?_)); done)) | (refine call_go (f := 56) rfl rfl [0] ?_; (conv => whnf); refine callWp s3 ?_ ?_; focus ((repeat' (first | exact trivial | exact rfl | exact .inr rfl | exact .inl rfl | refine And.intro ?_ ?_)); done)) | with_reducible refine d_left [(0, 0)] ?_ ?_ | with_reducible refine Br.dec (fun _ => ?_) (fun _ => ?_) | with_reducible refine Br.decn (fun _ => ?_) (fun _ => ?_) | with_reducible refine d_left [] ?_ ?_ | exact rfl | exact Nat.le_of_ble_eq_true rfl | (refine Nat.le_of_eq ?_; simp [rows, seqI]; done) | refine call_go rfl rfl [] ?_ | (refine Hid.mk ?_; first | decide | omega | (simp <;> omega) | (intro e; subst e; omega) | (intro e; subst e; simp_all; done) | exact Prod.ext (by omega) (by omega))) <;> conv => whnf)
theorem l91Val_e (B : List Nat) (k : Nat) (hB : Bytes B) (hk : k ≤ 80000) : ∃ (x y : Int) (k' : Nat), (k ≤ k' ∧ k' ≤ k + 6) ∧ (0 ≤ x ∧ x ≤ 4) ∧ (-1 ≤ y ∧ y ≤ 8) ∧ Spec ctx 117 [.ptr 0 2 0 0] [rd B k] (.tup [iv .i64 x, iv .i64 y]) [(0, some (rd B k'))] := by
  obtain ⟨x1, a1, -, s1⟩ := pick_e B k 3 hB (by omega)
  have hm : most (1 + x1) ≤ 7 := by unfold most; split; omega; split <;> omega
  have hm1 : 0 ≤ most (1 + x1) := by unfold most; split; omega; split <;> omega
  have sm := l11Most_s (1 + x1) (by omega)
  obtain ⟨x2, a2, -, s2⟩ := pick_e B (k + 1) (most (1 + x1) + 1) hB (by omega)
  obtain ⟨x3, a3, -, s3⟩ := pick_e B (k + 1 + 1) 30 hB (by omega)
  obtain ⟨x4, k4, a4, b4, s4⟩ := l91Kind_e B (k + 1 + 1 + 1) hB (by omega)
  obtain ⟨x5, a5, -, s5⟩ := pick_e B k4 10 hB (by omega)
  by_cases c0 : x3 = 0
  · refine ⟨x4, x5 - 1, k4 + 1, by omega, by omega, by omega, ?_⟩
    refine spec_mk ctx_mixed ctx_enters 1 Tryz.func117 rfl rfl (Nat.le_of_ble_eq_true rfl) 1 rfl ?_; conv => whnf
    repeat' ((first | (with_reducible first | refine d_chk ?_ | refine Br.tt ?_ | refine Br.ff ?_ | refine Br.beq ?_ | refine Br.bne ?_ | refine Br.nt ?_ | refine Br.nf ?_ | refine d_wrap ?_ | refine d_rem ?_ | refine d_nat ?_ | refine d_get (by omega) ?_ | refine Br.yesd ?_ | refine Br.nod ?_ | refine Br.yesn ?_ | refine Br.nodn ?_ | refine d_le ?_ | refine d_lt ?_ | refine And.intro ?_ ?_ | exact trivial | exact .inr rfl | rfl | refine sc_int | refine sc_bt ?_ | refine sc_bf ?_ | refine sc_bb ?_ | refine sc_bh ?_ | refine sc_ih ?_) | (refine call_go (f := 56) rfl rfl [0] ?_; (conv => whnf); refine callWp s1 ?_ ?_; focus ((repeat' (first | exact trivial | exact rfl | exact .inr rfl | exact .inl rfl | refine And.intro ?_ ?_)); done)) | (refine call_go (f := 56) rfl rfl [0] ?_; (conv => whnf); refine callWp s2 ?_ ?_; focus ((repeat' (first | exact trivial | exact rfl | exact .inr rfl | exact .inl rfl | refine And.intro ?_ ?_)); done)) | (refine call_go (f := 56) rfl rfl [0] ?_; (conv => whnf); refine callWp s3 ?_ ?_; focus ((repeat' (first | exact trivial | exact rfl | exact .inr rfl | exact .inl rfl | refine And.intro ?_ ?_)); done)) | (refine call_go (f := 56) rfl rfl [0] ?_; (conv => whnf); refine callWp s5 ?_ ?_; focus ((repeat' (first | exact trivial | exact rfl | exact .inr rfl | exact .inl rfl | refine And.intro ?_ ?_)); done)) | (refine call_go (f := 84) rfl rfl [0] ?_; (conv => whnf); refine callWp s4 ?_ ?_; focus ((repeat' (first | exact trivial | exact rfl | exact .inr rfl | exact .inl rfl | refine And.intro ?_ ?_)); done)) | refine callW0 sm rfl trivial ?_ | with_reducible refine d_left [(0, 0)] ?_ ?_ | with_reducible refine Br.dec (fun _ => ?_) (fun _ => ?_) | with_reducible refine Br.decn (fun _ => ?_) (fun _ => ?_) | with_reducible refine d_left [] ?_ ?_ | exact rfl | exact Nat.le_of_ble_eq_true rfl | (refine Nat.le_of_eq ?_; simp [rows, seqI]; done) | refine call_go rfl rfl [] ?_ | (refine Hid.mk ?_; first | decide | omega | (simp <;> omega) | (intro e; subst e; omega) | (intro e; subst e; simp_all; done) | exact Prod.ext (by omega) (by omega))) <;> conv => whnf)
    all_goals trace_state
  refine ⟨1 + x1, x2, k + 1 + 1 + 1, by omega, by omega, by omega, ?_⟩
  refine spec_mk ctx_mixed ctx_enters 1 Tryz.func117 rfl rfl (Nat.le_of_ble_eq_true rfl) 1 rfl ?_; conv => whnf
  repeat' ((first | (with_reducible first | refine d_chk ?_ | refine Br.tt ?_ | refine Br.ff ?_ | refine Br.beq ?_ | refine Br.bne ?_ | refine Br.nt ?_ | refine Br.nf ?_ | refine d_wrap ?_ | refine d_rem ?_ | refine d_nat ?_ | refine d_get (by omega) ?_ | refine Br.yesd ?_ | refine Br.nod ?_ | refine Br.yesn ?_ | refine Br.nodn ?_ | refine d_le ?_ | refine d_lt ?_ | refine And.intro ?_ ?_ | exact trivial | exact .inr rfl | rfl | refine sc_int | refine sc_bt ?_ | refine sc_bf ?_ | refine sc_bb ?_ | refine sc_bh ?_ | refine sc_ih ?_) | (refine call_go (f := 56) rfl rfl [0] ?_; (conv => whnf); refine callWp s1 ?_ ?_; focus ((repeat' (first | exact trivial | exact rfl | exact .inr rfl | exact .inl rfl | refine And.intro ?_ ?_)); done)) | (refine call_go (f := 56) rfl rfl [0] ?_; (conv => whnf); refine callWp s2 ?_ ?_; focus ((repeat' (first | exact trivial | exact rfl | exact .inr rfl | exact .inl rfl | refine And.intro ?_ ?_)); done)) | (refine call_go (f := 56) rfl rfl [0] ?_; (conv => whnf); refine callWp s3 ?_ ?_; focus ((repeat' (first | exact trivial | exact rfl | exact .inr rfl | exact .inl rfl | refine And.intro ?_ ?_)); done)) | refine callW0 sm rfl trivial ?_ | with_reducible refine d_left [(0, 0)] ?_ ?_ | with_reducible refine Br.dec (fun _ => ?_) (fun _ => ?_) | with_reducible refine Br.decn (fun _ => ?_) (fun _ => ?_) | with_reducible refine d_left [] ?_ ?_ | exact rfl | exact Nat.le_of_ble_eq_true rfl | (refine Nat.le_of_eq ?_; simp [rows, seqI]; done) | refine call_go rfl rfl [] ?_ | (refine Hid.mk ?_; first | decide | omega | (simp <;> omega) | (intro e; subst e; omega) | (intro e; subst e; simp_all; done) | exact Prod.ext (by omega) (by omega))) <;> conv => whnf)
  all_goals trace_state
end Go.Proofs.YtdjoodbidcncaaaGreatDoor.AW

/- The reference draws parts. -/
namespace Go.Proofs.YtdjoodbidcncaaaGreatDoor.AW
open Go
set_option maxRecDepth 10000
abbrev prZ : AV := .agg [iv .i64 0, iv .i64 0, iv .i64 0, nilS]
abbrev prB (p : Prt) : AV := .agg [iv .i64 p.id, iv .i64 p.kind, iv .i64 p.side, .own 1 1 0 p.list.length none]
theorem pm_len (id k val seed : Int) (n : Nat) : (pmA id k val seed n).list.length = 3 * n + 3 ∧ (pmB id k val seed n).list.length = 3 * n + 3 := ⟨by show (zipE fdif _ _).length = _; rw [zipE_len (by rw [pmL_len, l4vec_len]), pmL_len], by show (l4vec _ _).length = _; rw [l4vec_len]⟩
set_option maxHeartbeats 1000000 in
theorem l92Part_e (B : List Nat) (k : Nat) (hB : Bytes B) (hk : k ≤ 70000) : (∃ k' : Nat, (k ≤ k' ∧ k' ≤ k + 9) ∧ Spec ctx 60 [.ptr 0 2 0 0] [rd B k] prZ [(0, some (rd B k'))]) ∨
    (∃ (p : Prt) (k' : Nat), (k ≤ k' ∧ k' ≤ k + 9) ∧ PrOk p ∧ Spec ctx 60 [.ptr 0 2 0 0] [rd B k] (prB p) [(0, some (rd B k')), (1, some (.row 1 (rows ci p.list)))]) := by
  obtain ⟨x1, y1, k1, a1, b1, c1, s1⟩ := l91Val_e B k hB (by omega)
  obtain ⟨x2, a2, -, s2⟩ := pick_e B k1 12 hB (by omega)
  obtain ⟨x3, a3, -, s3⟩ := pick_e B (k1 + 1) 1000 hB (by omega)
  obtain ⟨x4, a4, -, s4⟩ := pick_e B (k1 + 1 + 1) 2 hB (by omega)
  by_cases h : (1 ≤ x1 ∧ x1 ≤ 3) ∧ 0 ≤ y1 ∧ y1 ≤ most x1
  · have hL := lenOf_le x1
    obtain ⟨n, hn⟩ : ∃ n : Nat, (n : Int) = lenOf x1 := ⟨(lenOf x1).toNat, by omega⟩
    have hi : idO (1 + x2) := by unfold idO; omega
    have sM := PartsMake_s (1 + x2) x1 y1 x3 hi h.1 h.2 (by omega) n hn
    have oA := pmA_ok (val := y1) (seed := x3) hi h.1 hn
    have oB := pmB_ok (val := y1) (seed := x3) hi h.1 hn
    obtain ⟨lA, lB⟩ := pm_len (1 + x2) x1 y1 x3 n
    right
    by_cases c0 : x4 = 0
    · refine ⟨pmB (1 + x2) x1 y1 x3 n, k1 + 1 + 1 + 1, by omega, oB, ?_⟩
      rw [prB, lB]
      refine spec_mk ctx_mixed ctx_enters 9 Tryz.func60 rfl rfl (Nat.le_of_ble_eq_true rfl) 1 rfl ?_; conv => whnf
      repeat' ((first | (with_reducible first | refine d_chk ?_ | refine Br.tt ?_ | refine Br.ff ?_ | refine Br.beq ?_ | refine Br.bne ?_ | refine Br.nt ?_ | refine Br.nf ?_ | refine d_wrap ?_ | refine d_rem ?_ | refine d_nat ?_ | refine d_get (by omega) ?_ | refine Br.yesd ?_ | refine Br.nod ?_ | refine Br.yesn ?_ | refine Br.nodn ?_ | refine d_le ?_ | refine d_lt ?_ | refine And.intro ?_ ?_ | exact trivial | exact .inr rfl | rfl | refine sc_int | refine sc_bt ?_ | refine sc_bf ?_ | refine sc_bb ?_ | refine sc_bh ?_ | refine sc_ih ?_) | (refine call_go (f := 117) rfl rfl [0] ?_; (conv => whnf); refine callWp s1 ?_ ?_; focus ((repeat' (first | exact trivial | exact rfl | exact .inr rfl | exact .inl rfl | refine And.intro ?_ ?_)); done)) | (refine call_go (f := 56) rfl rfl [0] ?_; (conv => whnf); refine callWp s2 ?_ ?_; focus ((repeat' (first | exact trivial | exact rfl | exact .inr rfl | exact .inl rfl | refine And.intro ?_ ?_)); done)) | (refine call_go (f := 56) rfl rfl [0] ?_; (conv => whnf); refine callWp s3 ?_ ?_; focus ((repeat' (first | exact trivial | exact rfl | exact .inr rfl | exact .inl rfl | refine And.intro ?_ ?_)); done)) | (refine call_go (f := 56) rfl rfl [0] ?_; (conv => whnf); refine callWp s4 ?_ ?_; focus ((repeat' (first | exact trivial | exact rfl | exact .inr rfl | exact .inl rfl | refine And.intro ?_ ?_)); done)) | refine callWn sM 2 rfl ⟨⟨⟨trivial, trivial, trivial, trivial, trivial⟩, ⟨trivial, trivial, trivial, trivial, trivial⟩, trivial, trivial⟩, rows_sc _, rows_sc _, trivial⟩ ?_ | with_reducible refine d_left [(0, 0), (1, 3)] ?_ ?_ | with_reducible refine Br.dec (fun _ => ?_) (fun _ => ?_) | with_reducible refine Br.decn (fun _ => ?_) (fun _ => ?_) | with_reducible refine d_left [] ?_ ?_ | exact rfl | exact Nat.le_of_ble_eq_true rfl | (refine Nat.le_of_eq ?_; simp [rows, seqI]; done) | refine call_go rfl rfl [] ?_ | (refine Hid.mk ?_; first | decide | omega | (simp <;> omega) | (intro e; subst e; omega) | (intro e; subst e; simp_all; done) | exact Prod.ext (by omega) (by omega))) <;> conv => whnf)
      all_goals exact ⟨rfl⟩
    · refine ⟨pmA (1 + x2) x1 y1 x3 n, k1 + 1 + 1 + 1, by omega, oA, ?_⟩
      rw [prB, lA]
      refine spec_mk ctx_mixed ctx_enters 9 Tryz.func60 rfl rfl (Nat.le_of_ble_eq_true rfl) 1 rfl ?_; conv => whnf
      repeat' ((first | (with_reducible first | refine d_chk ?_ | refine Br.tt ?_ | refine Br.ff ?_ | refine Br.beq ?_ | refine Br.bne ?_ | refine Br.nt ?_ | refine Br.nf ?_ | refine d_wrap ?_ | refine d_rem ?_ | refine d_nat ?_ | refine d_get (by omega) ?_ | refine Br.yesd ?_ | refine Br.nod ?_ | refine Br.yesn ?_ | refine Br.nodn ?_ | refine d_le ?_ | refine d_lt ?_ | refine And.intro ?_ ?_ | exact trivial | exact .inr rfl | rfl | refine sc_int | refine sc_bt ?_ | refine sc_bf ?_ | refine sc_bb ?_ | refine sc_bh ?_ | refine sc_ih ?_) | (refine call_go (f := 117) rfl rfl [0] ?_; (conv => whnf); refine callWp s1 ?_ ?_; focus ((repeat' (first | exact trivial | exact rfl | exact .inr rfl | exact .inl rfl | refine And.intro ?_ ?_)); done)) | (refine call_go (f := 56) rfl rfl [0] ?_; (conv => whnf); refine callWp s2 ?_ ?_; focus ((repeat' (first | exact trivial | exact rfl | exact .inr rfl | exact .inl rfl | refine And.intro ?_ ?_)); done)) | (refine call_go (f := 56) rfl rfl [0] ?_; (conv => whnf); refine callWp s3 ?_ ?_; focus ((repeat' (first | exact trivial | exact rfl | exact .inr rfl | exact .inl rfl | refine And.intro ?_ ?_)); done)) | (refine call_go (f := 56) rfl rfl [0] ?_; (conv => whnf); refine callWp s4 ?_ ?_; focus ((repeat' (first | exact trivial | exact rfl | exact .inr rfl | exact .inl rfl | refine And.intro ?_ ?_)); done)) | refine callWn sM 2 rfl ⟨⟨⟨trivial, trivial, trivial, trivial, trivial⟩, ⟨trivial, trivial, trivial, trivial, trivial⟩, trivial, trivial⟩, rows_sc _, rows_sc _, trivial⟩ ?_ | with_reducible refine d_left [(0, 0), (1, 2)] ?_ ?_ | with_reducible refine Br.dec (fun _ => ?_) (fun _ => ?_) | with_reducible refine Br.decn (fun _ => ?_) (fun _ => ?_) | with_reducible refine d_left [] ?_ ?_ | exact rfl | exact Nat.le_of_ble_eq_true rfl | (refine Nat.le_of_eq ?_; simp [rows, seqI]; done) | refine call_go rfl rfl [] ?_ | (refine Hid.mk ?_; first | decide | omega | (simp <;> omega) | (intro e; subst e; omega) | (intro e; subst e; simp_all; done) | exact Prod.ext (by omega) (by omega))) <;> conv => whnf)
      all_goals exact ⟨rfl⟩
  · left
    have sM := PartsMake_n (1 + x2) x1 y1 x3 h
    refine ⟨k1 + 1 + 1, by omega, ?_⟩
    refine spec_mk ctx_mixed ctx_enters 9 Tryz.func60 rfl rfl (Nat.le_of_ble_eq_true rfl) 1 rfl ?_; conv => whnf
    repeat' ((first | (with_reducible first | refine d_chk ?_ | refine Br.tt ?_ | refine Br.ff ?_ | refine Br.beq ?_ | refine Br.bne ?_ | refine Br.nt ?_ | refine Br.nf ?_ | refine d_wrap ?_ | refine d_rem ?_ | refine d_nat ?_ | refine d_get (by omega) ?_ | refine Br.yesd ?_ | refine Br.nod ?_ | refine Br.yesn ?_ | refine Br.nodn ?_ | refine d_le ?_ | refine d_lt ?_ | refine And.intro ?_ ?_ | exact trivial | exact .inr rfl | rfl | refine sc_int | refine sc_bt ?_ | refine sc_bf ?_ | refine sc_bb ?_ | refine sc_bh ?_ | refine sc_ih ?_) | (refine call_go (f := 117) rfl rfl [0] ?_; (conv => whnf); refine callWp s1 ?_ ?_; focus ((repeat' (first | exact trivial | exact rfl | exact .inr rfl | exact .inl rfl | refine And.intro ?_ ?_)); done)) | (refine call_go (f := 56) rfl rfl [0] ?_; (conv => whnf); refine callWp s2 ?_ ?_; focus ((repeat' (first | exact trivial | exact rfl | exact .inr rfl | exact .inl rfl | refine And.intro ?_ ?_)); done)) | (refine call_go (f := 56) rfl rfl [0] ?_; (conv => whnf); refine callWp s3 ?_ ?_; focus ((repeat' (first | exact trivial | exact rfl | exact .inr rfl | exact .inl rfl | refine And.intro ?_ ?_)); done)) | refine callWn sM 0 rfl ⟨⟨⟨trivial, trivial, trivial, trivial, trivial⟩, ⟨trivial, trivial, trivial, trivial, trivial⟩, trivial, trivial⟩, trivial⟩ ?_ | with_reducible refine d_left [(0, 0)] ?_ ?_ | with_reducible refine Br.dec (fun _ => ?_) (fun _ => ?_) | with_reducible refine Br.decn (fun _ => ?_) (fun _ => ?_) | with_reducible refine d_left [] ?_ ?_ | exact rfl | exact Nat.le_of_ble_eq_true rfl | (refine Nat.le_of_eq ?_; simp [rows, seqI]; done) | refine call_go rfl rfl [] ?_ | (refine Hid.mk ?_; first | decide | omega | (simp <;> omega) | (intro e; subst e; omega) | (intro e; subst e; simp_all; done) | exact Prod.ext (by omega) (by omega))) <;> conv => whnf)
/-! what is drawn, as functions -/
noncomputable def pk (B : List Nat) (k : Nat) (n : Int) : Int := open Classical in if h : Bytes B ∧ k ≤ 100000 then (pick_e B k n h.1 h.2).choose else 0
theorem pk_in {B : List Nat} {k : Nat} {n : Int} (hB : Bytes B) (hk : k ≤ 100000) (hn : 1 ≤ n := by omega) : 0 ≤ pk B k n ∧ pk B k n < n := by
  unfold pk; rw [dif_pos ⟨hB, hk⟩]; exact (pick_e B k n hB hk).choose_spec.1 hn
theorem pk_s {B : List Nat} {k : Nat} {n : Int} (hB : Bytes B) (hk : k ≤ 100000) : Spec ctx 56 [.ptr 0 2 0 0, iv .i64 n] [rd B k] (iv .i64 (pk B k n)) [(0, some (rd B (k + 1)))] := by
  unfold pk; rw [dif_pos ⟨hB, hk⟩]; exact (pick_e B k n hB hk).choose_spec.2.2
end Go.Proofs.YtdjoodbidcncaaaGreatDoor.AW
