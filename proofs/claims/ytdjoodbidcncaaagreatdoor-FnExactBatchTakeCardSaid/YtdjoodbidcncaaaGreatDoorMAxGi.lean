/- The reference's questions. -/
import Derived.Test.YtdjoodbidcncaaaGreatDoorMAxGc
import Derived.Test.YtdjoodbidcncaaaGreatDoorMAxDd
set_option linter.unusedVariables false
set_option linter.unusedSimpArgs false
namespace Go.Proofs.YtdjoodbidcncaaaGreatDoor.AW
open Go
set_option maxRecDepth 10000
def QMay (k at_ : Int) : Prop := (1 ≤ k ∧ k ≤ 3) ∧ lenOf k + 1 ≤ at_ ∧ at_ ≤ 30
instance (k a : Int) : Decidable (QMay k a) := by unfold QMay; infer_instance
theorem sQueryMay_s (k at_ : Int) : Spec ctx 194 [iv .i64 k, iv .i64 at_] [] (bv (decide (QMay k at_))) [] := by
  have hL := lenOf_le k
  refine spec_mk ctx_mixed ctx_enters 0 Tryz.func194 rfl rfl (Nat.le_of_ble_eq_true rfl) 0 rfl ?_; conv => whnf
  repeat' ((first | (with_reducible first | refine d_chk ?_ | refine Br.tt ?_ | refine Br.ff ?_ | refine Br.beq ?_ | refine Br.bne ?_ | refine Br.nt ?_ | refine Br.nf ?_ | refine d_wrap ?_ | refine d_rem ?_ | refine d_nat ?_ | refine d_get (by omega) ?_ | refine Br.yesd ?_ | refine Br.nod ?_ | refine Br.yesn ?_ | refine Br.nodn ?_ | refine d_le ?_ | refine d_lt ?_ | refine And.intro ?_ ?_ | exact trivial | exact .inr rfl | rfl | refine sc_int | refine sc_bt ?_ | refine sc_bf ?_ | refine sc_bb ?_ | refine sc_bh ?_ | refine sc_ih ?_) | refine callW0 (l11Kind_s _) rfl trivial ?_ | refine callW0 (TypeLen_s _) rfl trivial ?_ | refine callW0 (l6In_s _ _ _) rfl trivial ?_ | with_reducible refine Br.dec (fun _ => ?_) (fun _ => ?_) | with_reducible refine Br.decn (fun _ => ?_) (fun _ => ?_) | with_reducible refine d_left [] ?_ ?_ | exact rfl | exact Nat.le_of_ble_eq_true rfl | (refine Nat.le_of_eq ?_; simp [rows, seqI]; done) | refine call_go rfl rfl [] ?_ | (refine Hid.mk ?_; first | decide | omega | (simp <;> omega) | (intro e; subst e; omega) | (intro e; subst e; simp_all; done) | exact Prod.ext (by omega) (by omega))) <;> conv => whnf)
  all_goals (refine ⟨?_⟩; unfold QMay; omega)
def FitP (a b : Prt) : Prop := a.id = b.id ∧ a.kind = b.kind ∧ a.side = 1 ∧ b.side = 2
instance (a b : Prt) : Decidable (FitP a b) := by unfold FitP; infer_instance
theorem l21Fit_s (a b : Prt) : Spec ctx 146 [prA a, prA b] [] (bv (decide (FitP a b))) [] := by
  refine spec_mk ctx_mixed ctx_enters 0 Tryz.func146 rfl rfl (Nat.le_of_ble_eq_true rfl) 0 rfl ?_; conv => whnf
  repeat' ((first | (with_reducible first | refine d_chk ?_ | refine Br.tt ?_ | refine Br.ff ?_ | refine Br.beq ?_ | refine Br.bne ?_ | refine Br.nt ?_ | refine Br.nf ?_ | refine d_wrap ?_ | refine d_rem ?_ | refine d_nat ?_ | refine d_get (by omega) ?_ | refine Br.yesd ?_ | refine Br.nod ?_ | refine Br.yesn ?_ | refine Br.nodn ?_ | refine d_le ?_ | refine d_lt ?_ | refine And.intro ?_ ?_ | exact trivial | exact .inr rfl | rfl | refine sc_int | refine sc_bt ?_ | refine sc_bf ?_ | refine sc_bb ?_ | refine sc_bh ?_ | refine sc_ih ?_) | with_reducible refine Br.dec (fun _ => ?_) (fun _ => ?_) | with_reducible refine Br.decn (fun _ => ?_) (fun _ => ?_) | with_reducible refine d_left [] ?_ ?_ | exact rfl | exact Nat.le_of_ble_eq_true rfl | (refine Nat.le_of_eq ?_; simp [rows, seqI]; done) | refine call_go rfl rfl [] ?_ | (refine Hid.mk ?_; first | decide | omega | (simp <;> omega) | (intro e; subst e; omega) | (intro e; subst e; simp_all; done) | exact Prod.ext (by omega) (by omega))) <;> conv => whnf)
  all_goals (refine ⟨?_⟩; unfold FitP; omega)
def PFit (a b : Prt) : Prop := PrOk a ∧ PrOk b ∧ FitP a b
instance (a b : Prt) : Decidable (PFit a b) := by unfold PFit; infer_instance
theorem sPartsFit_s (a b : Prt) (ha : a.list.length ≤ 1100000) (hb : b.list.length ≤ 1100000) : Spec ctx 89 [prA a, prA b] [] (bv (decide (PFit a b))) [] := by
  refine spec_mk ctx_mixed ctx_enters 0 Tryz.func89 rfl rfl (Nat.le_of_ble_eq_true rfl) 0 rfl ?_; conv => whnf
  repeat' ((first | (with_reducible first | refine d_chk ?_ | refine Br.tt ?_ | refine Br.ff ?_ | refine Br.beq ?_ | refine Br.bne ?_ | refine Br.nt ?_ | refine Br.nf ?_ | refine d_wrap ?_ | refine d_rem ?_ | refine d_nat ?_ | refine d_get (by omega) ?_ | refine Br.yesd ?_ | refine Br.nod ?_ | refine Br.yesn ?_ | refine Br.nodn ?_ | refine d_le ?_ | refine d_lt ?_ | refine And.intro ?_ ?_ | exact trivial | exact .inr rfl | rfl | refine sc_int | refine sc_bt ?_ | refine sc_bf ?_ | refine sc_bb ?_ | refine sc_bh ?_ | refine sc_ih ?_) | refine callW0 (sPartOk_s a ha) rfl trivial ?_ | refine callW0 (sPartOk_s b hb) rfl trivial ?_ | refine callW0 (l21Fit_s a b) rfl trivial ?_ | with_reducible refine Br.dec (fun _ => ?_) (fun _ => ?_) | with_reducible refine Br.decn (fun _ => ?_) (fun _ => ?_) | with_reducible refine d_left [] ?_ ?_ | exact rfl | exact Nat.le_of_ble_eq_true rfl | (refine Nat.le_of_eq ?_; simp [rows, seqI]; done) | refine call_go rfl rfl [] ?_ | (refine Hid.mk ?_; first | decide | omega | (simp <;> omega) | (intro e; subst e; omega) | (intro e; subst e; simp_all; done) | exact Prod.ext (by omega) (by omega))) <;> conv => whnf)
  all_goals (refine ⟨?_⟩; unfold PFit; simp_all; done)
def l13dec (a b : List Int) : Prop := fmul ((zipE fsum a b).getD 0 0) ((zipE fsum a b).getD 1 0) = (zipE fsum a b).getD 2 0 ∧ (zipE fsum a b).getD 3 0 = 0
instance (a b : List Int) : Decidable (l13dec a b) := by unfold l13dec; infer_instance
theorem l13Decide_s (a b : List Int) (ha : a.length = 4) (hb : b.length = 4) : Spec ctx 195 [sl a none, sl b none] [] (bv (decide (l13dec a b))) [] := by
  have s1 := l3Sum_s a b (by omega) (by omega)
  have lz := zipE_len (f := fsum) (show a.length = b.length by omega)
  refine spec_mk ctx_mixed ctx_enters 0 Tryz.func195 rfl rfl (Nat.le_of_ble_eq_true rfl) 0 rfl ?_; conv => whnf
  repeat' ((first | (with_reducible first | refine d_chk ?_ | refine Br.tt ?_ | refine Br.ff ?_ | refine Br.beq ?_ | refine Br.bne ?_ | refine Br.nt ?_ | refine Br.nf ?_ | refine d_wrap ?_ | refine d_rem ?_ | refine d_nat ?_ | refine d_get (by omega) ?_ | refine Br.yesd ?_ | refine Br.nod ?_ | refine Br.yesn ?_ | refine Br.nodn ?_ | refine d_le ?_ | refine d_lt ?_ | refine And.intro ?_ ?_ | exact trivial | exact .inr rfl | rfl | refine sc_int | refine sc_bt ?_ | refine sc_bf ?_ | refine sc_bb ?_ | refine sc_bh ?_ | refine sc_ih ?_) | refine callWn s1 1 rfl ⟨trivial, rows_sc _, trivial⟩ ?_ | refine callW0 (sFieldMul_s _ _) rfl trivial ?_ | (refine ⟨0, rfl, ?_⟩) | (refine ⟨1, rfl, ?_⟩) | (refine ⟨2, rfl, ?_⟩) | (refine ⟨3, rfl, ?_⟩) | with_reducible refine Br.dec (fun _ => ?_) (fun _ => ?_) | with_reducible refine Br.decn (fun _ => ?_) (fun _ => ?_) | with_reducible refine d_left [] ?_ ?_ | exact rfl | exact Nat.le_of_ble_eq_true rfl | (refine Nat.le_of_eq ?_; simp [rows, seqI]; done) | refine call_go rfl rfl [] ?_ | (refine Hid.mk ?_; first | decide | omega | (simp <;> omega) | (intro e; subst e; omega) | (intro e; subst e; simp_all; done) | exact Prod.ext (by omega) (by omega))) <;> conv => whnf)
  all_goals
    refine ⟨?_⟩
    unfold l13dec
    rw [getD_get (by omega), getD_get (by omega), getD_get (by omega), getD_get (by omega)]
    simp only [Nat.zero_add] at *
    simp_all
/-! the answer of a share -/
def askW (d : Int) : Nat → Int
  | 0 => 1
  | i + 1 => askW d i * d % 31
theorem askW_ok (d : Int) : ∀ i, okE (askW d i)
  | 0 => (by decide : (0 : Int) ≤ 1 ∧ (1 : Int) ≤ 30)
  | i + 1 => by rw [askW]; omega
def askC (H : List Int) (d : Int) : Nat → Int
  | 0 => 0
  | i + 1 => (askC H d i + askW d i * l2at H (i + 1)) % 31
theorem askC_ok (H : List Int) (d : Int) : ∀ i, okE (askC H d i)
  | 0 => (by decide : (0 : Int) ≤ 0 ∧ (0 : Int) ≤ 30)
  | i + 1 => by rw [askC]; omega
def askS (v : List Int) : Nat → Int
  | 0 => 0
  | i + 1 => (askS v i + v.getD i 0) % 31
theorem askS_ok (v : List Int) : ∀ i, okE (askS v i)
  | 0 => (by decide : (0 : Int) ≤ 0 ∧ (0 : Int) ≤ 30)
  | i + 1 => by rw [askS]; omega
def ask2 (v : List Int) (V one : Int) : Nat → List Int
  | 0 => [V]
  | i + 1 => ask2 v V one i ++ [fdif (v.getD i 0) one]
theorem ask2_len (v : List Int) (V one : Int) : ∀ i, (ask2 v V one i).length = i + 1
  | 0 => rfl
  | i + 1 => by simp [ask2, ask2_len v V one i]
theorem ask2_ok {v : List Int} {V one : Int} (hV : okE V) : ∀ i, allE (ask2 v V one i)
  | 0 => fun x hx => by simp only [ask2, List.mem_cons, List.not_mem_nil, or_false] at hx; subst hx; exact hV
  | i + 1 => allE_app (ask2_ok hV i) (fdif_ok _ _)
def ask (k : Int) (l : List Int) (one at_ d : Int) (n : Nat) : List Int :=
  [l13dot (l2line (n + 1) at_ (n + 1)) (l.getD n 0 :: l.take n) (n + 1), l13dot (l2line (n + 1) at_ (n + 1)) (ask2 (l.take n) (l.getD (n + 1) 0) one n) (n + 1), l2at (l.drop (n + 2)) at_,
   if k = 2 then (askC (l.drop (n + 2)) d n + askW d n * fdif (askS (l.take n) n) one) % 31 else askC (l.drop (n + 2)) d n]
set_option maxHeartbeats 1000000 in
theorem l13Ask_s (k : Int) (l : List Int) (f : Bool) (at_ d : Int) (hk : 1 ≤ k ∧ k ≤ 3) (hl : (l.length : Int) = 3 * lenOf k + 3) (ho : allE l) (ha : okE at_) (hd : okE d) (n : Nat) (hn : (n : Int) = lenOf k) : Spec ctx 196 [iv .i64 k, sl l none, bv f, iv .i64 at_, iv .i64 d] [] (.own 0 1 0 4 none) [(0, some (.row 1 (rows ci (ask k l (if f then 1 else 0) at_ d n))))] := by
  have hL := lenOf_le k
  have hn4 : n ≤ 4 := by omega
  have sC := l12Cut_s k l hk hl n hn
  have sL := l2Line_s (n + 1) at_ (by omega)
  obtain ⟨v, hv⟩ : ∃ v, v = l.take n := ⟨_, rfl⟩
  obtain ⟨H, hH⟩ : ∃ H, H = l.drop (n + 2) := ⟨_, rfl⟩
  obtain ⟨U, hU⟩ : ∃ U, U = l.getD n 0 := ⟨_, rfl⟩
  obtain ⟨V, hV⟩ : ∃ V, V = l.getD (n + 1) 0 := ⟨_, rfl⟩
  have lv : v.length = n := by rw [hv, List.length_take]; omega
  have lH : H.length = 2 * n + 1 := by rw [hH, List.length_drop]; omega
  have ov : allE v := fun x hx => ho x (List.mem_of_mem_take (hv ▸ hx))
  have oH : allE H := fun x hx => ho x (List.mem_of_mem_drop (hH ▸ hx))
  have oU : okE U := by rw [hU]; exact allE_getD ho _
  have oV : okE V := by rw [hV]; exact allE_getD ho _
  rw [← hv, ← hH, ← hU, ← hV] at sC
  unfold ask
  rw [← hv, ← hH, ← hU, ← hV]
  have lU : (U :: v).length = n + 1 := by simp [lv]
  have sF := l12First_s v U (by omega)
  rw [lv] at sF
  have sA := l2At_s H at_ oH ha (by omega)
  have sD1 := l13Dot_s (l2line (n + 1) at_ (n + 1)) (U :: v) (l2line_ok _ _ _) (allE_cons oU ov) (by rw [l2line_len]; omega) (by rw [l2line_len]; omega)
  rw [l2line_len] at sD1
  cases f
  · rw [show (if false = true then (1 : Int) else 0) = 0 from rfl]
    have sD2 : ∀ i, i = n → _ := fun i e => l13Dot_s (l2line (n + 1) at_ (n + 1)) (ask2 v V 0 i) (l2line_ok _ _ _) (ask2_ok oV _) (by rw [l2line_len, ask2_len]; omega) (by rw [l2line_len]; omega)
    simp only [l2line_len] at sD2
    refine spec_mk ctx_mixed ctx_enters 4 Tryz.func196 rfl rfl (Nat.le_of_ble_eq_true rfl) 0 rfl ?_; conv => whnf
    repeat' ((first | (with_reducible first | refine d_chk ?_ | refine Br.tt ?_ | refine Br.ff ?_ | refine Br.beq ?_ | refine Br.bne ?_ | refine Br.nt ?_ | refine Br.nf ?_ | refine d_wrap ?_ | refine d_rem ?_ | refine d_nat ?_ | refine d_get (by omega) ?_ | refine Br.yesd ?_ | refine Br.nod ?_ | refine Br.yesn ?_ | refine Br.nodn ?_ | refine d_le ?_ | refine d_lt ?_ | refine And.intro ?_ ?_ | exact trivial | exact .inr rfl | rfl | refine sc_int | refine sc_bt ?_ | refine sc_bf ?_ | refine sc_bb ?_ | refine sc_bh ?_ | refine sc_ih ?_) | refine callWn sC 2 rfl ⟨⟨trivial, ⟨trivial, trivial, trivial, trivial⟩, trivial⟩, rows_sc _, rows_sc _, trivial⟩ ?_ | refine callWn sL 1 rfl ⟨trivial, rows_sc _, trivial⟩ ?_ | with_reducible refine Br.dec (fun _ => ?_) (fun _ => ?_) | with_reducible refine Br.decn (fun _ => ?_) (fun _ => ?_) | with_reducible refine d_left [] ?_ ?_ | exact rfl | exact Nat.le_of_ble_eq_true rfl | (refine Nat.le_of_eq ?_; simp [rows, seqI]; done) | refine call_go rfl rfl [] ?_ | (refine Hid.mk ?_; first | decide | omega | (simp <;> omega) | (intro e; subst e; omega) | (intro e; subst e; simp_all; done) | exact Prod.ext (by omega) (by omega))) <;> conv => whnf)
    refine AW.loopP (fun i : Nat => ⟨[(0, iv .i64 k), (3, iv .i64 at_), (4, iv .i64 d), (11, .own 0 1 0 n none), (12, .ptr 2 3 0 0), (13, iv .i64 0), (14, .own 3 1 0 (n + 1) none), (15, .own 4 1 0 (i + 1) none), (16, iv .i64 (askC H d i)), (17, iv .i64 (askW d i)), (18, iv .i64 (askS v i)), (19, iv .i64 i)], [(0, some (.row 1 (rows ci v))), (1, some (.row 1 (rows ci H))), (2, some (.box [iv .i64 U, iv .i64 V, .own 1 1 0 (2 * n + 1) none])), (3, some (.row 1 (rows ci (l2line (n + 1) at_ (n + 1))))), (4, some (.row 1 (rows ci (ask2 v V 0 i))))], 5⟩) (fun i => i ≤ n ∧ okE (askC H d i) ∧ okE (askW d i) ∧ okE (askS v i)) (fun i => n - i) 0 [(0, 0), (1, 1), (2, 2), (3, 3), (4, 4)] (d_sub _ ?_ ?_) ⟨by omega, askC_ok _ _ _, askW_ok _ _, askS_ok _ _⟩ (fun i ⟨hi, i1, i2, i3⟩ => ?_) <;> (conv => whnf) <;>
    repeat' ((first | (with_reducible first | refine d_chk ?_ | refine Br.tt ?_ | refine Br.ff ?_ | refine Br.beq ?_ | refine Br.bne ?_ | refine Br.nt ?_ | refine Br.nf ?_ | refine d_wrap ?_ | refine d_rem ?_ | refine d_nat ?_ | refine d_get (by omega) ?_ | refine Br.yesd ?_ | refine Br.nod ?_ | refine Br.yesn ?_ | refine Br.nodn ?_ | refine d_le ?_ | refine d_lt ?_ | refine And.intro ?_ ?_ | exact trivial | exact .inr rfl | rfl | refine sc_int | refine sc_bt ?_ | refine sc_bf ?_ | refine sc_bb ?_ | refine sc_bh ?_ | refine sc_ih ?_) | refine callW0 (sFieldDif_s _ _) rfl trivial ?_ | (refine callWl (f := 216) (l2At_s H ((i : Int) + 1) oH (by omega) (by omega)) trivial ?_ ?_; focus ((repeat' (first | exact trivial | exact rfl | exact .inr rfl | exact .inl rfl | exact rows_al' _ _ lH | refine And.intro ?_ ?_)); done)) | (refine callWl (f := 216) sA trivial ?_ ?_; focus ((repeat' (first | exact trivial | exact rfl | exact .inr rfl | exact .inl rfl | exact rows_al' _ _ lH | refine And.intro ?_ ?_)); done)) | (refine callWl (f := 217) sD1 trivial ?_ ?_; focus ((repeat' (first | exact trivial | exact rfl | exact .inr rfl | exact .inl rfl | first | exact rows_al' _ _ (l2line_len _ _ _) | exact rows_al' _ _ lU | refine And.intro ?_ ?_)); done)) | (refine callWl (f := 217) (sD2 i (by omega)) trivial ?_ ?_; focus ((repeat' (first | exact trivial | exact rfl | exact .inr rfl | exact .inl rfl | first | exact rows_al' _ _ (l2line_len _ _ _) | exact rows_al' _ _ (ask2_len _ _ _ _) | refine And.intro ?_ ?_)); done)) | (refine callWln (f := 158) sF 1 ⟨trivial, rows_sc _, trivial⟩ ?_ ?_; focus ((repeat' (first | exact trivial | exact rfl | exact .inr rfl | exact .inl rfl | exact rows_al' _ _ lv | refine And.intro ?_ ?_)); done)) | (refine d_mulE (by assumption) (by first | assumption | exact l2at_ok _ _ | exact fdif_ok _ _) (fun _ => ?_)) | (refine d_addL (by assumption) (fun _ => ?_)) | (refine d_addE (allE_get ov _) (fun _ => ?_)) | refine d_end (i+1) [(0, 0), (1, 1), (2, 2), (3, 3), (4, 6)] (d_sub _ ?_ ?_) ?_ | with_reducible refine d_mod ?_ | exact fun h => by cases h | with_reducible refine d_left [(0, 6)] ?_ ?_ | (show (2 * (i + 1 + 1) + 768) * 8 ≤ 281474976710656; omega) | (show i + 1 ≤ (rows ci (ask2 v V 0 i)).length; rw [rows_len, ask2_len]; omega) | with_reducible refine Br.dec (fun _ => ?_) (fun _ => ?_) | with_reducible refine Br.decn (fun _ => ?_) (fun _ => ?_) | with_reducible refine d_left [] ?_ ?_ | exact rfl | exact Nat.le_of_ble_eq_true rfl | (refine Nat.le_of_eq ?_; simp [rows, seqI]; done) | refine call_go rfl rfl [] ?_ | (refine Hid.mk ?_; first | decide | omega | (simp <;> omega) | (intro e; subst e; omega) | (intro e; subst e; simp_all; done) | exact Prod.ext (by omega) (by omega))) <;> conv => whnf)
    all_goals (first | exact .inl rfl | exact ⟨rfl⟩ | (show 0 + (2 * n + 1) ≤ _; rw [rows_len, lH]; omega) | (show 0 + n ≤ _; rw [rows_len, lv]; omega) | (show 0 + (n + 1) ≤ _; rw [rows_len, l2line_len]; omega) | (show 0 + (n + 1) ≤ _; rw [rows_len, lU]; omega) | (show 0 + (i + 1) ≤ _; rw [rows_len, ask2_len]; omega) | (refine ⟨?_⟩; rw [askS, getD_get (by omega)]; simp only [Nat.zero_add]; done) | exact (rows_push _ _ _ (ask2_len _ _ _ _)).trans (by rw [ask2, getD_get (by omega)]; simp only [Nat.zero_add]) | exact ⟨by omega, askC_ok _ _ _, askW_ok _ _, askS_ok _ _⟩ | skip)
    all_goals (rw [show i = n by omega]; first | (rw [if_pos (by omega)]; rfl) | (rw [if_neg (by omega)]; rfl))
  · rw [show (if true = true then (1 : Int) else 0) = 1 from rfl]
    have sD2 : ∀ i, i = n → _ := fun i e => l13Dot_s (l2line (n + 1) at_ (n + 1)) (ask2 v V 1 i) (l2line_ok _ _ _) (ask2_ok oV _) (by rw [l2line_len, ask2_len]; omega) (by rw [l2line_len]; omega)
    simp only [l2line_len] at sD2
    refine spec_mk ctx_mixed ctx_enters 4 Tryz.func196 rfl rfl (Nat.le_of_ble_eq_true rfl) 0 rfl ?_; conv => whnf
    repeat' ((first | (with_reducible first | refine d_chk ?_ | refine Br.tt ?_ | refine Br.ff ?_ | refine Br.beq ?_ | refine Br.bne ?_ | refine Br.nt ?_ | refine Br.nf ?_ | refine d_wrap ?_ | refine d_rem ?_ | refine d_nat ?_ | refine d_get (by omega) ?_ | refine Br.yesd ?_ | refine Br.nod ?_ | refine Br.yesn ?_ | refine Br.nodn ?_ | refine d_le ?_ | refine d_lt ?_ | refine And.intro ?_ ?_ | exact trivial | exact .inr rfl | rfl | refine sc_int | refine sc_bt ?_ | refine sc_bf ?_ | refine sc_bb ?_ | refine sc_bh ?_ | refine sc_ih ?_) | refine callWn sC 2 rfl ⟨⟨trivial, ⟨trivial, trivial, trivial, trivial⟩, trivial⟩, rows_sc _, rows_sc _, trivial⟩ ?_ | refine callWn sL 1 rfl ⟨trivial, rows_sc _, trivial⟩ ?_ | with_reducible refine Br.dec (fun _ => ?_) (fun _ => ?_) | with_reducible refine Br.decn (fun _ => ?_) (fun _ => ?_) | with_reducible refine d_left [] ?_ ?_ | exact rfl | exact Nat.le_of_ble_eq_true rfl | (refine Nat.le_of_eq ?_; simp [rows, seqI]; done) | refine call_go rfl rfl [] ?_ | (refine Hid.mk ?_; first | decide | omega | (simp <;> omega) | (intro e; subst e; omega) | (intro e; subst e; simp_all; done) | exact Prod.ext (by omega) (by omega))) <;> conv => whnf)
    refine AW.loopP (fun i : Nat => ⟨[(0, iv .i64 k), (3, iv .i64 at_), (4, iv .i64 d), (11, .own 0 1 0 n none), (12, .ptr 2 3 0 0), (13, iv .i64 1), (14, .own 3 1 0 (n + 1) none), (15, .own 4 1 0 (i + 1) none), (16, iv .i64 (askC H d i)), (17, iv .i64 (askW d i)), (18, iv .i64 (askS v i)), (19, iv .i64 i)], [(0, some (.row 1 (rows ci v))), (1, some (.row 1 (rows ci H))), (2, some (.box [iv .i64 U, iv .i64 V, .own 1 1 0 (2 * n + 1) none])), (3, some (.row 1 (rows ci (l2line (n + 1) at_ (n + 1))))), (4, some (.row 1 (rows ci (ask2 v V 1 i))))], 5⟩) (fun i => i ≤ n ∧ okE (askC H d i) ∧ okE (askW d i) ∧ okE (askS v i)) (fun i => n - i) 0 [(0, 0), (1, 1), (2, 2), (3, 3), (4, 4)] (d_sub _ ?_ ?_) ⟨by omega, askC_ok _ _ _, askW_ok _ _, askS_ok _ _⟩ (fun i ⟨hi, i1, i2, i3⟩ => ?_) <;> (conv => whnf) <;>
    repeat' ((first | (with_reducible first | refine d_chk ?_ | refine Br.tt ?_ | refine Br.ff ?_ | refine Br.beq ?_ | refine Br.bne ?_ | refine Br.nt ?_ | refine Br.nf ?_ | refine d_wrap ?_ | refine d_rem ?_ | refine d_nat ?_ | refine d_get (by omega) ?_ | refine Br.yesd ?_ | refine Br.nod ?_ | refine Br.yesn ?_ | refine Br.nodn ?_ | refine d_le ?_ | refine d_lt ?_ | refine And.intro ?_ ?_ | exact trivial | exact .inr rfl | rfl | refine sc_int | refine sc_bt ?_ | refine sc_bf ?_ | refine sc_bb ?_ | refine sc_bh ?_ | refine sc_ih ?_) | refine callW0 (sFieldDif_s _ _) rfl trivial ?_ | (refine callWl (f := 216) (l2At_s H ((i : Int) + 1) oH (by omega) (by omega)) trivial ?_ ?_; focus ((repeat' (first | exact trivial | exact rfl | exact .inr rfl | exact .inl rfl | exact rows_al' _ _ lH | refine And.intro ?_ ?_)); done)) | (refine callWl (f := 216) sA trivial ?_ ?_; focus ((repeat' (first | exact trivial | exact rfl | exact .inr rfl | exact .inl rfl | exact rows_al' _ _ lH | refine And.intro ?_ ?_)); done)) | (refine callWl (f := 217) sD1 trivial ?_ ?_; focus ((repeat' (first | exact trivial | exact rfl | exact .inr rfl | exact .inl rfl | first | exact rows_al' _ _ (l2line_len _ _ _) | exact rows_al' _ _ lU | refine And.intro ?_ ?_)); done)) | (refine callWl (f := 217) (sD2 i (by omega)) trivial ?_ ?_; focus ((repeat' (first | exact trivial | exact rfl | exact .inr rfl | exact .inl rfl | first | exact rows_al' _ _ (l2line_len _ _ _) | exact rows_al' _ _ (ask2_len _ _ _ _) | refine And.intro ?_ ?_)); done)) | (refine callWln (f := 158) sF 1 ⟨trivial, rows_sc _, trivial⟩ ?_ ?_; focus ((repeat' (first | exact trivial | exact rfl | exact .inr rfl | exact .inl rfl | exact rows_al' _ _ lv | refine And.intro ?_ ?_)); done)) | (refine d_mulE (by assumption) (by first | assumption | exact l2at_ok _ _ | exact fdif_ok _ _) (fun _ => ?_)) | (refine d_addL (by assumption) (fun _ => ?_)) | (refine d_addE (allE_get ov _) (fun _ => ?_)) | refine d_end (i+1) [(0, 0), (1, 1), (2, 2), (3, 3), (4, 6)] (d_sub _ ?_ ?_) ?_ | with_reducible refine d_mod ?_ | exact fun h => by cases h | with_reducible refine d_left [(0, 6)] ?_ ?_ | (show (2 * (i + 1 + 1) + 768) * 8 ≤ 281474976710656; omega) | (show i + 1 ≤ (rows ci (ask2 v V 1 i)).length; rw [rows_len, ask2_len]; omega) | with_reducible refine Br.dec (fun _ => ?_) (fun _ => ?_) | with_reducible refine Br.decn (fun _ => ?_) (fun _ => ?_) | with_reducible refine d_left [] ?_ ?_ | exact rfl | exact Nat.le_of_ble_eq_true rfl | (refine Nat.le_of_eq ?_; simp [rows, seqI]; done) | refine call_go rfl rfl [] ?_ | (refine Hid.mk ?_; first | decide | omega | (simp <;> omega) | (intro e; subst e; omega) | (intro e; subst e; simp_all; done) | exact Prod.ext (by omega) (by omega))) <;> conv => whnf)
    all_goals (first | exact .inl rfl | exact ⟨rfl⟩ | (show 0 + (2 * n + 1) ≤ _; rw [rows_len, lH]; omega) | (show 0 + n ≤ _; rw [rows_len, lv]; omega) | (show 0 + (n + 1) ≤ _; rw [rows_len, l2line_len]; omega) | (show 0 + (n + 1) ≤ _; rw [rows_len, lU]; omega) | (show 0 + (i + 1) ≤ _; rw [rows_len, ask2_len]; omega) | (refine ⟨?_⟩; rw [askS, getD_get (by omega)]; simp only [Nat.zero_add]; done) | exact (rows_push _ _ _ (ask2_len _ _ _ _)).trans (by rw [ask2, getD_get (by omega)]; simp only [Nat.zero_add]) | exact ⟨by omega, askC_ok _ _ _, askW_ok _ _, askS_ok _ _⟩ | skip)
    all_goals (rw [show i = n by omega]; first | (rw [if_pos (by omega)]; rfl) | (rw [if_neg (by omega)]; rfl))
end Go.Proofs.YtdjoodbidcncaaaGreatDoor.AW

/- The reference's questions of parts; batches. -/
namespace Go.Proofs.YtdjoodbidcncaaaGreatDoor.AW
open Go
set_option maxRecDepth 10000
def PTake (a b : Prt) (at_ d : Int) (n : Nat) : Prop := PFit a b ∧ QMay a.kind at_ ∧ okE d ∧ l13dec (ask a.kind a.list 1 at_ d n) (ask b.kind b.list 0 at_ d n)
instance (a b : Prt) (at_ d : Int) (n : Nat) : Decidable (PTake a b at_ d n) := by unfold PTake; infer_instance
theorem sPartsTake_s (a b : Prt) (at_ d : Int) (ha : a.list.length ≤ 1100000) (hb : b.list.length ≤ 1100000) (n : Nat) (hn : (n : Int) = lenOf a.kind) : Spec ctx 147 [prA a, prA b, iv .i64 at_, iv .i64 d] [] (bv (decide (PTake a b at_ d n))) [] := by
  have hL := lenOf_le a.kind
  have sF := sPartsFit_s a b ha hb
  by_cases h : PFit a b ∧ QMay a.kind at_ ∧ okE d
  · obtain ⟨h1, h2, h3⟩ := h
    have h4 := h1
    obtain ⟨⟨p1, p2, p3, p4, p5⟩, ⟨q1, q2, q3, q4, q5⟩, f1, f2, f3, f4⟩ := h4
    unfold plen at p4 q4
    rw [if_pos p2] at p4
    rw [if_pos q2] at q4
    have oa : okE at_ := by unfold QMay at h2; omega
    have s1 := l13Ask_s a.kind a.list true at_ d p2 p4 p5 oa h3 n hn
    have s2 := l13Ask_s b.kind b.list false at_ d q2 q4 q5 oa h3 n (by rw [← f2]; exact hn)
    have s3 := l13Decide_s (ask a.kind a.list 1 at_ d n) (ask b.kind b.list 0 at_ d n) rfl rfl
    rw [decide_eq_true h1] at sF
    have sQ := sQueryMay_s a.kind at_
    rw [decide_eq_true h2] at sQ
    have sE := sFieldOk_s d
    rw [decide_eq_true h3] at sE
    rw [if_pos rfl] at s1
    rw [if_neg (by decide)] at s2
    have e : decide (PTake a b at_ d n) = decide (l13dec (ask a.kind a.list 1 at_ d n) (ask b.kind b.list 0 at_ d n)) := decide_eq_decide.2 ⟨fun g => g.2.2.2, fun g => ⟨h1, h2, h3, g⟩⟩
    rw [e]
    refine spec_mk ctx_mixed ctx_enters 0 Tryz.func147 rfl rfl (Nat.le_of_ble_eq_true rfl) 0 rfl ?_; conv => whnf
    repeat' ((first | (with_reducible first | refine d_chk ?_ | refine Br.tt ?_ | refine Br.ff ?_ | refine Br.beq ?_ | refine Br.bne ?_ | refine Br.nt ?_ | refine Br.nf ?_ | refine d_wrap ?_ | refine d_rem ?_ | refine d_nat ?_ | refine d_get (by omega) ?_ | refine Br.yesd ?_ | refine Br.nod ?_ | refine Br.yesn ?_ | refine Br.nodn ?_ | refine d_le ?_ | refine d_lt ?_ | refine And.intro ?_ ?_ | exact trivial | exact .inr rfl | rfl | refine sc_int | refine sc_bt ?_ | refine sc_bf ?_ | refine sc_bb ?_ | refine sc_bh ?_ | refine sc_ih ?_) | refine callW0 sF rfl trivial ?_ | refine callW0 sQ rfl trivial ?_ | refine callW0 sE rfl trivial ?_ | refine callWn s1 1 rfl ⟨trivial, rows_sc _, trivial⟩ ?_ | refine callWn s2 1 rfl ⟨trivial, rows_sc _, trivial⟩ ?_ | (refine callWl (f := 195) s3 trivial ?_ ?_; focus ((repeat' (first | exact trivial | exact rfl | exact .inr rfl | exact .inl rfl | exact rows_al' _ _ rfl | refine And.intro ?_ ?_)); done)) | with_reducible refine Br.dec (fun _ => ?_) (fun _ => ?_) | with_reducible refine Br.decn (fun _ => ?_) (fun _ => ?_) | with_reducible refine d_left [] ?_ ?_ | exact rfl | exact Nat.le_of_ble_eq_true rfl | (refine Nat.le_of_eq ?_; simp [rows, seqI]; done) | refine call_go rfl rfl [] ?_ | (refine Hid.mk ?_; first | decide | omega | (simp <;> omega) | (intro e; subst e; omega) | (intro e; subst e; simp_all; done) | exact Prod.ext (by omega) (by omega))) <;> conv => whnf)
  · have e : decide (PTake a b at_ d n) = false := decide_eq_false fun g => h ⟨g.1, g.2.1, g.2.2.1⟩
    rw [e]
    refine spec_mk ctx_mixed ctx_enters 0 Tryz.func147 rfl rfl (Nat.le_of_ble_eq_true rfl) 0 rfl ?_; conv => whnf
    repeat' ((first | (with_reducible first | refine d_chk ?_ | refine Br.tt ?_ | refine Br.ff ?_ | refine Br.beq ?_ | refine Br.bne ?_ | refine Br.nt ?_ | refine Br.nf ?_ | refine d_wrap ?_ | refine d_rem ?_ | refine d_nat ?_ | refine d_get (by omega) ?_ | refine Br.yesd ?_ | refine Br.nod ?_ | refine Br.yesn ?_ | refine Br.nodn ?_ | refine d_le ?_ | refine d_lt ?_ | refine And.intro ?_ ?_ | exact trivial | exact .inr rfl | rfl | refine sc_int | refine sc_bt ?_ | refine sc_bf ?_ | refine sc_bb ?_ | refine sc_bh ?_ | refine sc_ih ?_) | refine callW0 sF rfl trivial ?_ | refine callW0 (sQueryMay_s _ _) rfl trivial ?_ | refine callW0 (sFieldOk_s _) rfl trivial ?_ | exact absurd ⟨by assumption, by assumption, by assumption⟩ h | with_reducible refine Br.dec (fun _ => ?_) (fun _ => ?_) | with_reducible refine Br.decn (fun _ => ?_) (fun _ => ?_) | with_reducible refine d_left [] ?_ ?_ | exact rfl | exact Nat.le_of_ble_eq_true rfl | (refine Nat.le_of_eq ?_; simp [rows, seqI]; done) | refine call_go rfl rfl [] ?_ | (refine Hid.mk ?_; first | decide | omega | (simp <;> omega) | (intro e; subst e; omega) | (intro e; subst e; simp_all; done) | exact Prod.ext (by omega) (by omega))) <;> conv => whnf)
/-! a batch -/
abbrev bownA (b : Ba) : AV := .agg [iv .i64 b.one.side, iv .i64 b.one.kind, .own 0 1 0 b.one.sum.length none, .own 1 1 0 b.one.ids.length none, iv .i64 b.two.side, iv .i64 b.two.kind, .own 2 1 0 b.two.sum.length none, .own 3 1 0 b.two.ids.length none, iv .i64 b.need]
abbrev bownH (b : Ba) : List (Nat × Option Block) := [(0, some (.row 1 (rows ci b.one.sum))), (1, some (.row 1 (rows ci b.one.ids))), (2, some (.row 1 (rows ci b.two.sum))), (3, some (.row 1 (rows ci b.two.ids)))]
theorem l23Copy_s (b : Ba) (h1 : b.one.sum.length ≤ 1100000) (h2 : b.one.ids.length ≤ 1100000) (h3 : b.two.sum.length ≤ 1100000) (h4 : b.two.ids.length ≤ 1100000) : Spec ctx 148 [.agg (baL b)] [] (bownA b) (bownH b) := by
  have s1 := l22Copy_s b.one h1 h2
  have s2 := l22Copy_s b.two h3 h4
  refine spec_mk ctx_mixed ctx_enters 9 Tryz.func148 rfl rfl (Nat.le_of_ble_eq_true rfl) 0 rfl ?_; conv => whnf
  repeat' ((first | (with_reducible first | refine d_chk ?_ | refine Br.tt ?_ | refine Br.ff ?_ | refine Br.beq ?_ | refine Br.bne ?_ | refine Br.nt ?_ | refine Br.nf ?_ | refine d_wrap ?_ | refine d_rem ?_ | refine d_nat ?_ | refine d_get (by omega) ?_ | refine Br.yesd ?_ | refine Br.nod ?_ | refine Br.yesn ?_ | refine Br.nodn ?_ | refine d_le ?_ | refine d_lt ?_ | refine And.intro ?_ ?_ | exact trivial | exact .inr rfl | rfl | refine sc_int | refine sc_bt ?_ | refine sc_bf ?_ | refine sc_bb ?_ | refine sc_bh ?_ | refine sc_ih ?_) | refine callWn s1 2 rfl ⟨⟨trivial, trivial, trivial, trivial, trivial⟩, rows_sc _, rows_sc _, trivial⟩ ?_ | refine callWn s2 2 rfl ⟨⟨trivial, trivial, trivial, trivial, trivial⟩, rows_sc _, rows_sc _, trivial⟩ ?_ | with_reducible refine d_left [(0, 2), (1, 3), (2, 4), (3, 5)] ?_ ?_ | with_reducible refine Br.dec (fun _ => ?_) (fun _ => ?_) | with_reducible refine Br.decn (fun _ => ?_) (fun _ => ?_) | with_reducible refine d_left [] ?_ ?_ | exact rfl | exact Nat.le_of_ble_eq_true rfl | (refine Nat.le_of_eq ?_; simp [rows, seqI]; done) | refine call_go rfl rfl [] ?_ | (refine Hid.mk ?_; first | decide | omega | (simp <;> omega) | (intro e; subst e; omega) | (intro e; subst e; simp_all; done) | exact Prod.ext (by omega) (by omega))) <;> conv => whnf)
def BTake (b : Ba) (p q : Prt) (at_ d : Int) (n : Nat) : Prop := PTake p q at_ d n ∧ TakeOk b.one p ∧ TakeOk b.two q
instance (b : Ba) (p q : Prt) (at_ d : Int) (n : Nat) : Decidable (BTake b p q at_ d n) := by unfold BTake; infer_instance
def btake (b : Ba) (p q : Prt) (at_ d : Int) (n : Nat) : Ba := if BTake b p q at_ d n then ⟨ctake b.one p, ctake b.two q, b.need⟩ else b
theorem ctake_len' (c : Co) (p : Prt) (h : TakeOk c p) : (ctake c p).side = c.side ∧ (ctake c p).kind = c.kind := by
  unfold ctake; rw [if_pos h]; exact ⟨rfl, rfl⟩
set_option maxHeartbeats 2000000 in
theorem l23Take_s (b : Ba) (p q : Prt) (at_ d : Int) (n : Nat) (hn : (n : Int) = lenOf p.kind) (h1 : CoOk b.one) (h2 : CoOk b.two) (hp : PrOk p) (hq : PrOk q) : Spec ctx 90 [.agg (baL b), prA p, prA q, iv .i64 at_, iv .i64 d] [] (.tup [bownA (btake b p q at_ d n), bv (decide (BTake b p q at_ d n))]) (bownH (btake b p q at_ d n)) := by
  have c1 := h1
  have c2 := h2
  obtain ⟨-, ⟨-, u1, -⟩, -, u2, -⟩ := c1
  obtain ⟨-, ⟨-, u3, -⟩, -, u4, -⟩ := c2
  have hL1 := lenOf_le b.one.kind
  have hL2 := lenOf_le b.two.kind
  have hp4 := hp.2.2.2.1
  have hq4 := hq.2.2.2.1
  have hM1 := plen_le p.kind
  have hM2 := plen_le q.kind
  have sP := sPartsTake_s p q at_ d (by omega) (by omega) n hn
  have sC := l23Copy_s b (by omega) (by omega) (by omega) (by omega)
  have s1 := l22Take_s b.one p h1 hp
  have s2 := l22Take_s b.two q h2 hq
  by_cases h : BTake b p q at_ d n
  · have e : btake b p q at_ d n = ⟨ctake b.one p, ctake b.two q, b.need⟩ := if_pos h
    rw [decide_eq_true h, e]
    obtain ⟨g1, g2, g3⟩ := h
    rw [decide_eq_true g1] at sP
    rw [decide_eq_true g2] at s1
    rw [decide_eq_true g3] at s2
    obtain ⟨w1, w2⟩ := ctake_len' b.one p g2
    obtain ⟨w3, w4⟩ := ctake_len' b.two q g3
    refine spec_mk ctx_mixed ctx_enters 20 Tryz.func90 rfl rfl (Nat.le_of_ble_eq_true rfl) 0 rfl ?_; conv => whnf
    repeat' ((first | (with_reducible first | refine d_chk ?_ | refine Br.tt ?_ | refine Br.ff ?_ | refine Br.beq ?_ | refine Br.bne ?_ | refine Br.nt ?_ | refine Br.nf ?_ | refine d_wrap ?_ | refine d_rem ?_ | refine d_nat ?_ | refine d_get (by omega) ?_ | refine Br.yesd ?_ | refine Br.nod ?_ | refine Br.yesn ?_ | refine Br.nodn ?_ | refine d_le ?_ | refine d_lt ?_ | refine And.intro ?_ ?_ | exact trivial | exact .inr rfl | rfl | refine sc_int | refine sc_bt ?_ | refine sc_bf ?_ | refine sc_bb ?_ | refine sc_bh ?_ | refine sc_ih ?_) | refine callW0 sP rfl trivial ?_ | refine callWn s1 2 rfl ⟨⟨⟨trivial, trivial, trivial, trivial, trivial⟩, trivial, trivial⟩, rows_sc _, rows_sc _, trivial⟩ ?_ | refine callWn s2 2 rfl ⟨⟨⟨trivial, trivial, trivial, trivial, trivial⟩, trivial, trivial⟩, rows_sc _, rows_sc _, trivial⟩ ?_ | with_reducible refine d_left [(0, 4), (1, 5), (2, 7), (3, 8)] ?_ ?_ | with_reducible refine Br.dec (fun _ => ?_) (fun _ => ?_) | with_reducible refine Br.decn (fun _ => ?_) (fun _ => ?_) | with_reducible refine d_left [] ?_ ?_ | exact rfl | exact Nat.le_of_ble_eq_true rfl | (refine Nat.le_of_eq ?_; simp [rows, seqI]; done) | refine call_go rfl rfl [] ?_ | (refine Hid.mk ?_; first | decide | omega | (simp <;> omega) | (intro e; subst e; omega) | (intro e; subst e; simp_all; done) | exact Prod.ext (by omega) (by omega))) <;> conv => whnf)
  · have e : btake b p q at_ d n = b := if_neg h
    rw [decide_eq_false h, e]
    by_cases g1 : PTake p q at_ d n
    · rw [decide_eq_true g1] at sP
      refine spec_mk ctx_mixed ctx_enters 20 Tryz.func90 rfl rfl (Nat.le_of_ble_eq_true rfl) 0 rfl ?_; conv => whnf
      repeat' ((first | (with_reducible first | refine d_chk ?_ | refine Br.tt ?_ | refine Br.ff ?_ | refine Br.beq ?_ | refine Br.bne ?_ | refine Br.nt ?_ | refine Br.nf ?_ | refine d_wrap ?_ | refine d_rem ?_ | refine d_nat ?_ | refine d_get (by omega) ?_ | refine Br.yesd ?_ | refine Br.nod ?_ | refine Br.yesn ?_ | refine Br.nodn ?_ | refine d_le ?_ | refine d_lt ?_ | refine And.intro ?_ ?_ | exact trivial | exact .inr rfl | rfl | refine sc_int | refine sc_bt ?_ | refine sc_bf ?_ | refine sc_bb ?_ | refine sc_bh ?_ | refine sc_ih ?_) | refine callW0 sP rfl trivial ?_ | refine callWn sC 4 rfl ⟨⟨trivial, trivial, trivial, trivial, trivial, trivial, trivial, trivial, trivial, trivial⟩, rows_sc _, rows_sc _, rows_sc _, rows_sc _, trivial⟩ ?_ | refine callWn s1 2 rfl ⟨⟨⟨trivial, trivial, trivial, trivial, trivial⟩, trivial, trivial⟩, rows_sc _, rows_sc _, trivial⟩ ?_ | refine callWn s2 2 rfl ⟨⟨⟨trivial, trivial, trivial, trivial, trivial⟩, trivial, trivial⟩, rows_sc _, rows_sc _, trivial⟩ ?_ | with_reducible refine d_left [(0, 10), (1, 11), (2, 12), (3, 13)] ?_ ?_ | exact absurd ⟨g1, by assumption, by assumption⟩ h | with_reducible refine Br.dec (fun _ => ?_) (fun _ => ?_) | with_reducible refine Br.decn (fun _ => ?_) (fun _ => ?_) | with_reducible refine d_left [] ?_ ?_ | exact rfl | exact Nat.le_of_ble_eq_true rfl | (refine Nat.le_of_eq ?_; simp [rows, seqI]; done) | refine call_go rfl rfl [] ?_ | (refine Hid.mk ?_; first | decide | omega | (simp <;> omega) | (intro e; subst e; omega) | (intro e; subst e; simp_all; done) | exact Prod.ext (by omega) (by omega))) <;> conv => whnf)
    · rw [decide_eq_false g1] at sP
      refine spec_mk ctx_mixed ctx_enters 20 Tryz.func90 rfl rfl (Nat.le_of_ble_eq_true rfl) 0 rfl ?_; conv => whnf
      repeat' ((first | (with_reducible first | refine d_chk ?_ | refine Br.tt ?_ | refine Br.ff ?_ | refine Br.beq ?_ | refine Br.bne ?_ | refine Br.nt ?_ | refine Br.nf ?_ | refine d_wrap ?_ | refine d_rem ?_ | refine d_nat ?_ | refine d_get (by omega) ?_ | refine Br.yesd ?_ | refine Br.nod ?_ | refine Br.yesn ?_ | refine Br.nodn ?_ | refine d_le ?_ | refine d_lt ?_ | refine And.intro ?_ ?_ | exact trivial | exact .inr rfl | rfl | refine sc_int | refine sc_bt ?_ | refine sc_bf ?_ | refine sc_bb ?_ | refine sc_bh ?_ | refine sc_ih ?_) | refine callW0 sP rfl trivial ?_ | refine callWn sC 4 rfl ⟨⟨trivial, trivial, trivial, trivial, trivial, trivial, trivial, trivial, trivial, trivial⟩, rows_sc _, rows_sc _, rows_sc _, rows_sc _, trivial⟩ ?_ | with_reducible refine d_left [(0, 4), (1, 5), (2, 6), (3, 7)] ?_ ?_ | with_reducible refine Br.dec (fun _ => ?_) (fun _ => ?_) | with_reducible refine Br.decn (fun _ => ?_) (fun _ => ?_) | with_reducible refine d_left [] ?_ ?_ | exact rfl | exact Nat.le_of_ble_eq_true rfl | (refine Nat.le_of_eq ?_; simp [rows, seqI]; done) | refine call_go rfl rfl [] ?_ | (refine Hid.mk ?_; first | decide | omega | (simp <;> omega) | (intro e; subst e; omega) | (intro e; subst e; simp_all; done) | exact Prod.ext (by omega) (by omega))) <;> conv => whnf)
end Go.Proofs.YtdjoodbidcncaaaGreatDoor.AW
