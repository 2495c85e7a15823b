/- Collectors and parts: which are valid; sums. -/
import Derived.Test.YtekpddiahnaomaaGreatDoorMAxDa
import Derived.Test.YtekpddiahnaomaaGreatDoorMAxEw
set_option linter.unusedVariables false
set_option linter.unusedSimpArgs false
namespace Go.Proofs.YtekpddiahnaomaaGreatDoor.AW
open Go
set_option maxRecDepth 10000
theorem lenOf_le (k : Int) : 0 ≤ lenOf k ∧ lenOf k ≤ 4 := by unfold lenOf; omega
theorem lenOf_no {k : Int} (h : ¬(1 ≤ k ∧ k ≤ 3)) : lenOf k = 0 := by unfold lenOf; omega
theorem iTypeLenG_s (n : Int) : Spec ctx 34 [iv .i64 n] [] (iv .i64 (lenOf n)) [] := by
  by_cases h : 1 ≤ n ∧ n ≤ 3
  · exact iTypeLen_s n h
  · rw [lenOf_no h]
    refine spec_mk ctx_mixed 0 Tryz.func34 rfl rfl (Nat.le_of_ble_eq_true rfl) 0 rfl ?_; conv => whnf
    repeat' ((first | (with_reducible first | refine d_chk ?_ | refine Br.tt ?_ | refine Br.ff ?_ | refine Br.beq ?_ | refine Br.bne ?_ | refine Br.nt ?_ | refine Br.nf ?_ | refine d_wrap ?_ | refine d_rem ?_ | refine d_nat ?_ | refine d_get (by omega) ?_ | refine Br.yesd ?_ | refine Br.nod ?_ | refine Br.yesn ?_ | refine Br.nodn ?_ | refine d_le ?_ | refine d_lt ?_ | refine And.intro ?_ ?_ | exact trivial | exact .inr rfl | rfl | refine sc_int | refine sc_bt ?_ | refine sc_bf ?_ | refine sc_bb ?_ | refine sc_bh ?_ | refine sc_ih ?_) | refine callW0 (measureOf0_s _ h) rfl trivial ?_ | with_reducible refine Br.dec (fun _ => ?_) (fun _ => ?_) | with_reducible refine Br.decn (fun _ => ?_) (fun _ => ?_) | with_reducible refine d_left [] ?_ ?_ | exact rfl | exact Nat.le_of_ble_eq_true rfl | (refine Nat.le_of_eq ?_; simp [rows, seqI]; done) | refine call_go rfl rfl [] ?_ | (refine Hid.mk ?_; first | decide | omega | (simp <;> omega) | (intro e; subst e; omega) | (intro e; subst e; simp_all; done) | exact Prod.ext (by omega) (by omega))) <;> conv => whnf)
def VecOk (k : Int) (v : List Int) : Prop := (1 ≤ k ∧ k ≤ 3) ∧ (v.length : Int) = lenOf k ∧ ∀ x ∈ v, okE x
instance (k : Int) (v : List Int) : Decidable (VecOk k v) := by unfold VecOk; infer_instance
def CoOk (c : Co) : Prop := (1 ≤ c.side ∧ c.side ≤ 2) ∧ VecOk c.kind c.sum ∧ c.ids.Nodup ∧ (c.ids.length : Int) ≤ 9 ∧ ∀ x ∈ c.ids, idO x
instance (c : Co) : Decidable (CoOk c) := by unfold CoOk; infer_instance
def plen (k : Int) : Int := if 1 ≤ k ∧ k ≤ 3 then 3 * lenOf k + 3 else 0
def PrOk (p : Prt) : Prop := idO p.id ∧ (1 ≤ p.kind ∧ p.kind ≤ 3) ∧ (1 ≤ p.side ∧ p.side ≤ 2) ∧ (p.list.length : Int) = plen p.kind ∧ ∀ x ∈ p.list, okE x
instance (p : Prt) : Decidable (PrOk p) := by unfold PrOk; infer_instance
theorem vec_iff (k : Int) (v : List Int) : ((1 ≤ k ∧ k ≤ 3) ∧ (v.length : Int) = lenOf k ∧ (v.length : Int) ≤ 20 ∧ ∀ x ∈ v, okE x) ↔ VecOk k v := by
  have := lenOf_le k
  exact ⟨fun h => ⟨h.1, h.2.1, h.2.2.2⟩, fun h => ⟨h.1, h.2.1, by have := h.2.1; omega, h.2.2⟩⟩
theorem plen_le (k : Int) : 0 ≤ plen k ∧ plen k ≤ 15 := by have := lenOf_le k; unfold plen; split <;> omega
theorem iColOk_s (c : Co) (h1 : c.sum.length ≤ 1100000) (h2 : c.ids.length ≤ 1100000) : Spec ctx 28 [.agg (coL c)] [] (bv (decide (CoOk c))) [] := by
  have la := rows_len ci c.sum
  have lb := rows_len ci c.ids
  have sS := sized_s c.kind (lenOf c.kind) c.sum (by omega)
  rw [decide_eq_decide.2 (vec_iff c.kind c.sum)] at sS
  refine spec_mk ctx_mixed 0 Tryz.func28 rfl rfl (Nat.le_of_ble_eq_true rfl) 0 rfl ?_; conv => whnf
  repeat' ((first | (with_reducible first | refine d_chk ?_ | refine Br.tt ?_ | refine Br.ff ?_ | refine Br.beq ?_ | refine Br.bne ?_ | refine Br.nt ?_ | refine Br.nf ?_ | refine d_wrap ?_ | refine d_rem ?_ | refine d_nat ?_ | refine d_get (by omega) ?_ | refine Br.yesd ?_ | refine Br.nod ?_ | refine Br.yesn ?_ | refine Br.nodn ?_ | refine d_le ?_ | refine d_lt ?_ | refine And.intro ?_ ?_ | exact trivial | exact .inr rfl | rfl | refine sc_int | refine sc_bt ?_ | refine sc_bf ?_ | refine sc_bb ?_ | refine sc_bh ?_ | refine sc_ih ?_) | refine callW0 (within_s _ _ _) rfl trivial ?_ | refine callW0 (iTypeLenG_s _) rfl trivial ?_ | refine callW0 sS rfl trivial ?_ | refine callW0 (idsOk_s c.ids _ h2) rfl trivial ?_ | with_reducible refine Br.dec (fun _ => ?_) (fun _ => ?_) | with_reducible refine Br.decn (fun _ => ?_) (fun _ => ?_) | with_reducible refine d_left [] ?_ ?_ | exact rfl | exact Nat.le_of_ble_eq_true rfl | (refine Nat.le_of_eq ?_; simp [rows, seqI]; done) | refine call_go rfl rfl [] ?_ | (refine Hid.mk ?_; first | decide | omega | (simp <;> omega) | (intro e; subst e; omega) | (intro e; subst e; simp_all; done) | exact Prod.ext (by omega) (by omega))) <;> conv => whnf)
  · rename_i g1 g2; exact ⟨⟨fun g => ⟨g1, g2, g⟩, fun g => g.2.2⟩⟩
  · rename_i g1 g2; exact ⟨fun g => g2 g.2.1⟩
  · rename_i g1; exact ⟨fun g => g1 g.1⟩
theorem l22Has_s (l : List Int) (n : Int) (hl : l.length ≤ 1100000) : Spec ctx 80 [sl l none, iv .i64 n] [] (bv (decide (n ∈ l))) [] := by
  have la := rows_len ci l
  refine spec_mk ctx_mixed 0 Tryz.func80 rfl rfl (Nat.le_of_ble_eq_true rfl) 0 rfl ?_; conv => whnf
  repeat' ((first | (with_reducible first | refine d_chk ?_ | refine Br.tt ?_ | refine Br.ff ?_ | refine Br.beq ?_ | refine Br.bne ?_ | refine Br.nt ?_ | refine Br.nf ?_ | refine d_wrap ?_ | refine d_rem ?_ | refine d_nat ?_ | refine d_get (by omega) ?_ | refine Br.yesd ?_ | refine Br.nod ?_ | refine Br.yesn ?_ | refine Br.nodn ?_ | refine d_le ?_ | refine d_lt ?_ | refine And.intro ?_ ?_ | exact trivial | exact .inr rfl | rfl | refine sc_int | refine sc_bt ?_ | refine sc_bf ?_ | refine sc_bb ?_ | refine sc_bh ?_ | refine sc_ih ?_) | with_reducible refine Br.dec (fun _ => ?_) (fun _ => ?_) | with_reducible refine Br.decn (fun _ => ?_) (fun _ => ?_) | with_reducible refine d_left [] ?_ ?_ | exact rfl | exact Nat.le_of_ble_eq_true rfl | (refine Nat.le_of_eq ?_; simp [rows, seqI]; done) | refine call_go rfl rfl [] ?_ | (refine Hid.mk ?_; first | decide | omega | (simp <;> omega) | (intro e; subst e; omega) | (intro e; subst e; simp_all; done) | exact Prod.ext (by omega) (by omega))) <;> conv => whnf)
  refine AW.loopP (fun i : Nat => ⟨[(0, sl l none), (1, iv .i64 n), (5, iv .i64 i)], [], 0⟩) (fun i => i ≤ l.length ∧ n ∉ l.take i) (fun i => l.length - i) 0 [] (d_sub _ ?_ ?_) ⟨by simp, by simp⟩ (fun i ⟨hi, ht⟩ => ?_) <;> (conv => whnf) <;>
  repeat' ((first | (with_reducible first | refine d_chk ?_ | refine Br.tt ?_ | refine Br.ff ?_ | refine Br.beq ?_ | refine Br.bne ?_ | refine Br.nt ?_ | refine Br.nf ?_ | refine d_wrap ?_ | refine d_rem ?_ | refine d_nat ?_ | refine d_get (by omega) ?_ | refine Br.yesd ?_ | refine Br.nod ?_ | refine Br.yesn ?_ | refine Br.nodn ?_ | refine d_le ?_ | refine d_lt ?_ | refine And.intro ?_ ?_ | exact trivial | exact .inr rfl | rfl | refine sc_int | refine sc_bt ?_ | refine sc_bf ?_ | refine sc_bb ?_ | refine sc_bh ?_ | refine sc_ih ?_) | refine d_end (i+1) [] (d_sub _ ?_ ?_) ?_ | with_reducible refine Br.dec (fun _ => ?_) (fun _ => ?_) | with_reducible refine Br.decn (fun _ => ?_) (fun _ => ?_) | with_reducible refine d_left [] ?_ ?_ | exact rfl | exact Nat.le_of_ble_eq_true rfl | (refine Nat.le_of_eq ?_; simp [rows, seqI]; done) | refine call_go rfl rfl [] ?_ | (refine Hid.mk ?_; first | decide | omega | (simp <;> omega) | (intro e; subst e; omega) | (intro e; subst e; simp_all; done) | exact Prod.ext (by omega) (by omega))) <;> conv => whnf)
  · rename_i g; exact ⟨by rw [← g]; exact List.getElem_mem _⟩
  · rename_i g; refine ⟨by omega, ?_⟩; rw [List.take_succ_eq_append_getElem (by omega)]; simp only [List.mem_append, List.mem_singleton]; exact fun q => q.elim ht fun q => g q.symm
  · rw [List.take_of_length_le (by omega)] at ht; exact ⟨ht⟩
theorem l11Vec_s (k : Int) (l : List Int) (hl : l.length ≤ 1100000) : Spec ctx 81 [iv .i64 k, sl l none] [] (bv (decide (VecOk k l))) [] := by
  have la := rows_len ci l
  refine spec_mk ctx_mixed 0 Tryz.func81 rfl rfl (Nat.le_of_ble_eq_true rfl) 0 rfl ?_; conv => whnf
  repeat' ((first | (with_reducible first | refine d_chk ?_ | refine Br.tt ?_ | refine Br.ff ?_ | refine Br.beq ?_ | refine Br.bne ?_ | refine Br.nt ?_ | refine Br.nf ?_ | refine d_wrap ?_ | refine d_rem ?_ | refine d_nat ?_ | refine d_get (by omega) ?_ | refine Br.yesd ?_ | refine Br.nod ?_ | refine Br.yesn ?_ | refine Br.nodn ?_ | refine d_le ?_ | refine d_lt ?_ | refine And.intro ?_ ?_ | exact trivial | exact .inr rfl | rfl | refine sc_int | refine sc_bt ?_ | refine sc_bf ?_ | refine sc_bb ?_ | refine sc_bh ?_ | refine sc_ih ?_) | refine callW0 (l11Kind_s _) rfl trivial ?_ | refine callW0 (sShareOk_s l (by omega)) rfl trivial ?_ | refine callW0 (TypeLen_s _) rfl trivial ?_ | with_reducible refine Br.dec (fun _ => ?_) (fun _ => ?_) | with_reducible refine Br.decn (fun _ => ?_) (fun _ => ?_) | with_reducible refine d_left [] ?_ ?_ | exact rfl | exact Nat.le_of_ble_eq_true rfl | (refine Nat.le_of_eq ?_; simp [rows, seqI]; done) | refine call_go rfl rfl [] ?_ | (refine Hid.mk ?_; first | decide | omega | (simp <;> omega) | (intro e; subst e; omega) | (intro e; subst e; simp_all; done) | exact Prod.ext (by omega) (by omega))) <;> conv => whnf)
  · rename_i g1 g2; rw [la]; exact ⟨⟨fun g => ⟨g1, g, g2.2⟩, fun g => g.2.1⟩⟩
  · rename_i g1 g2; have := lenOf_le k; exact ⟨fun g => g2 ⟨by have := g.2.1; omega, g.2.2⟩⟩
  · rename_i g1; exact ⟨fun g => g1 g.1⟩
theorem rows_td (l : List Int) (k : Nat) : List.take k (List.drop 0 (rows ci l)) = rows ci (l.take k) := by simp [rows, List.map_take]
theorem rows_tk (l : List Int) (k : Nat) : List.take k (rows ci l) = rows ci (l.take k) := by simp [rows, List.map_take]
theorem nodup_more {l : List Int} {i : Nat} (h : i < l.length) : (l.take (i + 1)).Nodup ↔ (l.take i).Nodup ∧ l[i] ∉ l.take i := by
  rw [List.take_succ_eq_append_getElem h, List.nodup_append]
  exact ⟨fun ⟨a, _, b⟩ => ⟨a, fun q => b _ q _ (by simp) rfl⟩, fun ⟨a, b⟩ => ⟨a, by simp, fun x hx y hy e => b (by simp at hy; rw [← hy, ← e]; exact hx)⟩⟩
theorem rows_dt (l : List Int) (k : Nat) : List.drop 0 (List.take k (rows ci l)) = rows ci (l.take k) := by simp [rows, List.map_take]
theorem sColOk_s (c : Co) (h1 : c.sum.length ≤ 1100000) (h2 : c.ids.length ≤ 1100000) : Spec ctx 30 [.agg (coL c)] [] (bv (decide (CoOk c))) [] := by
  have la := rows_len ci c.sum
  have lb := rows_len ci c.ids
  refine spec_mk ctx_mixed 0 Tryz.func30 rfl rfl (Nat.le_of_ble_eq_true rfl) 0 rfl ?_; conv => whnf
  repeat' ((first | (with_reducible first | refine d_chk ?_ | refine Br.tt ?_ | refine Br.ff ?_ | refine Br.beq ?_ | refine Br.bne ?_ | refine Br.nt ?_ | refine Br.nf ?_ | refine d_wrap ?_ | refine d_rem ?_ | refine d_nat ?_ | refine d_get (by omega) ?_ | refine Br.yesd ?_ | refine Br.nod ?_ | refine Br.yesn ?_ | refine Br.nodn ?_ | refine d_le ?_ | refine d_lt ?_ | refine And.intro ?_ ?_ | exact trivial | exact .inr rfl | rfl | refine sc_int | refine sc_bt ?_ | refine sc_bf ?_ | refine sc_bb ?_ | refine sc_bh ?_ | refine sc_ih ?_) | with_reducible refine Br.dec (fun _ => ?_) (fun _ => ?_) | with_reducible refine Br.decn (fun _ => ?_) (fun _ => ?_) | with_reducible refine d_left [] ?_ ?_ | exact rfl | exact Nat.le_of_ble_eq_true rfl | (refine Nat.le_of_eq ?_; simp [rows, seqI]; done) | refine call_go rfl rfl [] ?_ | (refine Hid.mk ?_; first | decide | omega | (simp <;> omega) | (intro e; subst e; omega) | (intro e; subst e; simp_all; done) | exact Prod.ext (by omega) (by omega))) <;> conv => whnf)
  refine AW.loopP (fun i : Nat => ⟨[(1, .ptr 0 4 0 0), (3, iv .i64 i)], [(0, some (.box (coL c)))], 1⟩) (fun i => i ≤ c.ids.length ∧ (c.ids.take i).Nodup ∧ ∀ x ∈ c.ids.take i, idO x) (fun i => c.ids.length - i) 0 [(0, 0)] (d_sub _ ?_ ?_) ⟨by simp, by simp, by simp⟩ (fun i ⟨hi, ht, hx⟩ => ?_) <;> (conv => whnf) <;>
  repeat' ((first | (with_reducible first | refine d_chk ?_ | refine Br.tt ?_ | refine Br.ff ?_ | refine Br.beq ?_ | refine Br.bne ?_ | refine Br.nt ?_ | refine Br.nf ?_ | refine d_wrap ?_ | refine d_rem ?_ | refine d_nat ?_ | refine d_get (by omega) ?_ | refine Br.yesd ?_ | refine Br.nod ?_ | refine Br.yesn ?_ | refine Br.nodn ?_ | refine d_le ?_ | refine d_lt ?_ | refine And.intro ?_ ?_ | exact trivial | exact .inr rfl | rfl | refine sc_int | refine sc_bt ?_ | refine sc_bf ?_ | refine sc_bb ?_ | refine sc_bh ?_ | refine sc_ih ?_) | refine d_end (i+1) [(0, 0)] (d_sub _ ?_ ?_) ?_ | refine callW0 (l6In_s _ _ _) rfl trivial ?_ | refine callW0 (l11Vec_s _ _ h1) rfl trivial ?_ | (refine callWl (f := 80) (l22Has_s (c.ids.take i) c.ids[i] (Nat.le_trans (List.length_take_le' _ _) h2)) trivial ?_ ?_; focus ((repeat' (first | exact trivial | exact rfl | exact .inr rfl | exact .inl rfl | exact rows_td _ _ | refine And.intro ?_ ?_)); done)) | exact fun h => by cases h | with_reducible refine Br.dec (fun _ => ?_) (fun _ => ?_) | with_reducible refine Br.decn (fun _ => ?_) (fun _ => ?_) | with_reducible refine d_left [] ?_ ?_ | exact rfl | exact Nat.le_of_ble_eq_true rfl | (refine Nat.le_of_eq ?_; simp [rows, seqI]; done) | refine call_go rfl rfl [] ?_ | (refine Hid.mk ?_; first | decide | omega | (simp <;> omega) | (intro e; subst e; omega) | (intro e; subst e; simp_all; done) | exact Prod.ext (by omega) (by omega))) <;> conv => whnf)
  · rename_i g; exact ⟨fun q => g (q.2.2.2.2 _ (List.getElem_mem _))⟩
  · rename_i g; exact ⟨fun q => ((nodup_more (by omega)).1 (q.2.2.1.sublist (List.take_sublist (i + 1) _))).2 g⟩
  · rename_i g1 g2
    refine ⟨by omega, (nodup_more (by omega)).2 ⟨ht, g2⟩, fun x q => ?_⟩
    rw [List.take_succ_eq_append_getElem (by omega)] at q
    rcases List.mem_append.1 q with q | q
    · exact hx x q
    · simp at q; subst q; exact g1
  · rename_i g1 g2
    rw [List.take_of_length_le (by omega)] at ht hx
    rw [lb]
    exact ⟨⟨fun g => ⟨g1, g2, ht, g, hx⟩, fun g => g.2.2.2.1⟩⟩
  · rename_i g1; exact ⟨fun g => g1 g.2.1⟩
  · rename_i g1; exact ⟨fun g => g1 g.1⟩
theorem sPartOk_s (p : Prt) (h1 : p.list.length ≤ 1100000) : Spec ctx 31 [prA p] [] (bv (decide (PrOk p))) [] := by
  have la := rows_len ci p.list
  refine spec_mk ctx_mixed 0 Tryz.func31 rfl rfl (Nat.le_of_ble_eq_true rfl) 0 rfl ?_; conv => whnf
  repeat' ((first | (with_reducible first | refine d_chk ?_ | refine Br.tt ?_ | refine Br.ff ?_ | refine Br.beq ?_ | refine Br.bne ?_ | refine Br.nt ?_ | refine Br.nf ?_ | refine d_wrap ?_ | refine d_rem ?_ | refine d_nat ?_ | refine d_get (by omega) ?_ | refine Br.yesd ?_ | refine Br.nod ?_ | refine Br.yesn ?_ | refine Br.nodn ?_ | refine d_le ?_ | refine d_lt ?_ | refine And.intro ?_ ?_ | exact trivial | exact .inr rfl | rfl | refine sc_int | refine sc_bt ?_ | refine sc_bf ?_ | refine sc_bb ?_ | refine sc_bh ?_ | refine sc_ih ?_) | refine callW0 (l6In_s _ _ _) rfl trivial ?_ | refine callW0 (l11Kind_s _) rfl trivial ?_ | refine callW0 (sShareOk_s p.list (by omega)) rfl trivial ?_ | refine callW0 (sProofLen_s _) rfl trivial ?_ | with_reducible refine Br.dec (fun _ => ?_) (fun _ => ?_) | with_reducible refine Br.decn (fun _ => ?_) (fun _ => ?_) | with_reducible refine d_left [] ?_ ?_ | exact rfl | exact Nat.le_of_ble_eq_true rfl | (refine Nat.le_of_eq ?_; simp [rows, seqI]; done) | refine call_go rfl rfl [] ?_ | (refine Hid.mk ?_; first | decide | omega | (simp <;> omega) | (intro e; subst e; omega) | (intro e; subst e; simp_all; done) | exact Prod.ext (by omega) (by omega))) <;> conv => whnf)
  · rename_i g1 g2 g3 g4
    rw [la]
    exact ⟨⟨fun g => ⟨g1, g2, g3, g, g4.2⟩, fun g => g.2.2.2.1⟩⟩
  · rename_i g1 g2 g3 g4
    have := plen_le p.kind
    exact ⟨fun g => g4 ⟨by have := g.2.2.2.1; omega, g.2.2.2.2⟩⟩
  · rename_i g1 g2 g3; exact ⟨fun g => g3 g.2.2.1⟩
  · rename_i g1 g2; exact ⟨fun g => g2 g.2.1⟩
  · rename_i g1; exact ⟨fun g => g1 g.1⟩
def fsum (x y : Int) : Int := if okE x ∧ okE y then (x + y) % 31 else 0
theorem rows_grow {l : List Int} {i : Nat} {v : Int} (h : i < l.length) (hv : l[i] = v) : (rows ci (l.take i)).take i ++ [ci v] = rows ci (l.take (i + 1)) := by
  subst hv
  rw [List.take_of_length_le (by simp [rows]; omega), List.take_succ_eq_append_getElem h]
  simp only [rows, List.map_append, List.map_cons, List.map_nil]
theorem zipE_at {f : Int → Int → Int} {xs ys : List Int} (h : xs.length = ys.length) {k : Nat} (hk : k < (zipE f xs ys).length) : (zipE f xs ys)[k] = f (xs[k]'(by rw [zipE_len h] at hk; exact hk)) (ys[k]'(by rw [zipE_len h] at hk; omega)) := by
  simp [zipE]
theorem l3Sum_s (a b : List Int) (hl : a.length = b.length) (h1 : a.length ≤ 1100000) : Spec ctx 99 [sl a none, sl b none] [] (.own 0 1 0 a.length none) [(0, some (.row 1 (rows ci (zipE fsum a b))))] := by
  have la := rows_len ci a
  have lb := rows_len ci b
  have lz := zipE_len (f := fsum) hl
  have ll := fun i => rows_len ci ((zipE fsum a b).take i)
  refine spec_mk ctx_mixed 4 Tryz.func99 rfl rfl (Nat.le_of_ble_eq_true rfl) 0 rfl ?_; conv => whnf
  repeat' ((first | (with_reducible first | refine d_chk ?_ | refine Br.tt ?_ | refine Br.ff ?_ | refine Br.beq ?_ | refine Br.bne ?_ | refine Br.nt ?_ | refine Br.nf ?_ | refine d_wrap ?_ | refine d_rem ?_ | refine d_nat ?_ | refine d_get (by omega) ?_ | refine Br.yesd ?_ | refine Br.nod ?_ | refine Br.yesn ?_ | refine Br.nodn ?_ | refine d_le ?_ | refine d_lt ?_ | refine And.intro ?_ ?_ | exact trivial | exact .inr rfl | rfl | refine sc_int | refine sc_bt ?_ | refine sc_bf ?_ | refine sc_bb ?_ | refine sc_bh ?_ | refine sc_ih ?_) | with_reducible refine Br.dec (fun _ => ?_) (fun _ => ?_) | with_reducible refine Br.decn (fun _ => ?_) (fun _ => ?_) | with_reducible refine d_left [] ?_ ?_ | exact rfl | exact Nat.le_of_ble_eq_true rfl | (refine Nat.le_of_eq ?_; simp [rows, seqI]; done) | refine call_go rfl rfl [] ?_ | (refine Hid.mk ?_; first | decide | omega | (simp <;> omega) | (intro e; subst e; omega) | (intro e; subst e; simp_all; done) | exact Prod.ext (by omega) (by omega))) <;> conv => whnf)
  all_goals (try exact Or.inl rfl)
  refine AW.loopP (fun i : Nat => ⟨[(0, sl a none), (1, sl b none), (5, .own 0 1 0 i none), (6, iv .i64 i)], [(0, some (.row 1 (rows ci ((zipE fsum a b).take i))))], 1⟩) (fun i => i ≤ a.length) (fun i => a.length - i) 0 [(0, 0)] (d_sub _ ?_ ?_) (by omega) (fun i hi => ?_) <;> (conv => whnf) <;>
  repeat' ((first | (with_reducible first | refine d_chk ?_ | refine Br.tt ?_ | refine Br.ff ?_ | refine Br.beq ?_ | refine Br.bne ?_ | refine Br.nt ?_ | refine Br.nf ?_ | refine d_wrap ?_ | refine d_rem ?_ | refine d_nat ?_ | refine d_get (by omega) ?_ | refine Br.yesd ?_ | refine Br.nod ?_ | refine Br.yesn ?_ | refine Br.nodn ?_ | refine d_le ?_ | refine d_lt ?_ | refine And.intro ?_ ?_ | exact trivial | exact .inr rfl | rfl | refine sc_int | refine sc_bt ?_ | refine sc_bf ?_ | refine sc_bb ?_ | refine sc_bh ?_ | refine sc_ih ?_) | refine callW0 (sFieldSum_s _ _) rfl trivial ?_ | refine d_end (i+1) [(0, 2)] (d_sub _ ?_ ?_) ?_ | with_reducible refine d_left [(0, 0)] ?_ ?_ | (show (2 * (i + 1) + 768) * 8 ≤ 281474976710656; omega) | (show i ≤ (rows ci ((zipE fsum a b).take i)).length; rw [ll, List.length_take]; omega) | with_reducible refine Br.dec (fun _ => ?_) (fun _ => ?_) | with_reducible refine Br.decn (fun _ => ?_) (fun _ => ?_) | with_reducible refine d_left [] ?_ ?_ | exact rfl | exact Nat.le_of_ble_eq_true rfl | (refine Nat.le_of_eq ?_; simp [rows, seqI]; done) | refine call_go rfl rfl [] ?_ | (refine Hid.mk ?_; first | decide | omega | (simp <;> omega) | (intro e; subst e; omega) | (intro e; subst e; simp_all; done) | exact Prod.ext (by omega) (by omega))) <;> conv => whnf)
  · exact Or.inl rfl
  · exact rows_grow (by omega) (zipE_at hl (by omega))
  · omega
  · rw [List.take_of_length_le (by omega)]
abbrev cownA (side kind : Int) (n m : Nat) : AV := .agg [iv .i64 side, iv .i64 kind, .own 0 1 0 n none, .own 1 1 0 m none]
abbrev cownH (xs ys : List Int) : List (Nat × Option Block) := [(0, some (.row 1 (rows ci xs))), (1, some (.row 1 (rows ci ys)))]
theorem l22Copy_s (c : Co) (h1 : c.sum.length ≤ 1100000) (h2 : c.ids.length ≤ 1100000) : Spec ctx 98 [.agg (coL c)] [] (cownA c.side c.kind c.sum.length c.ids.length) (cownH c.sum c.ids) := by
  have la := rows_len ci c.sum
  have lb := rows_len ci c.ids
  refine spec_mk ctx_mixed 9 Tryz.func98 rfl rfl (Nat.le_of_ble_eq_true rfl) 0 rfl ?_; conv => whnf
  repeat' ((first | (with_reducible first | refine d_chk ?_ | refine Br.tt ?_ | refine Br.ff ?_ | refine Br.beq ?_ | refine Br.bne ?_ | refine Br.nt ?_ | refine Br.nf ?_ | refine d_wrap ?_ | refine d_rem ?_ | refine d_nat ?_ | refine d_get (by omega) ?_ | refine Br.yesd ?_ | refine Br.nod ?_ | refine Br.yesn ?_ | refine Br.nodn ?_ | refine d_le ?_ | refine d_lt ?_ | refine And.intro ?_ ?_ | exact trivial | exact .inr rfl | rfl | refine sc_int | refine sc_bt ?_ | refine sc_bf ?_ | refine sc_bb ?_ | refine sc_bh ?_ | refine sc_ih ?_) | with_reducible refine d_left [(0, 3), (1, 5)] ?_ ?_ | (show (2 * (0 + (rows ci c.sum).length) + 768) * 8 ≤ 281474976710656; omega) | (show (2 * (0 + (rows ci c.ids).length) + 768) * 8 ≤ 281474976710656; omega) | omega | with_reducible refine Br.dec (fun _ => ?_) (fun _ => ?_) | with_reducible refine Br.decn (fun _ => ?_) (fun _ => ?_) | with_reducible refine d_left [] ?_ ?_ | exact rfl | exact Nat.le_of_ble_eq_true rfl | (refine Nat.le_of_eq ?_; simp [rows, seqI]; done) | refine call_go rfl rfl [] ?_ | (refine Hid.mk ?_; first | decide | omega | (simp <;> omega) | (intro e; subst e; omega) | (intro e; subst e; simp_all; done) | exact Prod.ext (by omega) (by omega))) <;> conv => whnf)
/-- what is counted -/
def TakeOk (c : Co) (p : Prt) : Prop := p.side = c.side ∧ p.kind = c.kind ∧ p.id ∉ c.ids ∧ (c.ids.length : Int) < 9
instance (c : Co) (p : Prt) : Decidable (TakeOk c p) := by unfold TakeOk; infer_instance
def ctake (c : Co) (p : Prt) : Co := if TakeOk c p then { c with sum := zipE fsum c.sum (p.list.take c.sum.length), ids := c.ids ++ [p.id] } else c
end Go.Proofs.YtekpddiahnaomaaGreatDoor.AW

/- A part is counted: the reference. -/
namespace Go.Proofs.YtekpddiahnaomaaGreatDoor.AW
open Go
set_option maxRecDepth 10000
set_option maxHeartbeats 2000000 in
theorem l22Take_s (c : Co) (p : Prt) (hc : CoOk c) (hp : PrOk p) : Spec ctx 51 [.agg (coL c), prA p] [] (.tup [cownA c.side c.kind (ctake c p).sum.length (ctake c p).ids.length, bv (decide (TakeOk c p))]) (cownH (ctake c p).sum (ctake c p).ids) := by
  obtain ⟨c1, ⟨c2, c3, c4⟩, c5, c6, c7⟩ := hc
  obtain ⟨p1, p2, p3, p4, p5⟩ := hp
  have hL := lenOf_le c.kind
  have hM := plen_le p.kind
  have la := rows_len ci c.sum
  have lb := rows_len ci c.ids
  have lp := rows_len ci p.list
  have sC := l22Copy_s c (by omega) (by omega)
  have sH := l22Has_s c.ids p.id (by omega)
  by_cases h : TakeOk c p
  · have e : ctake c p = { c with sum := zipE fsum c.sum (p.list.take c.sum.length), ids := c.ids ++ [p.id] } := by unfold ctake; rw [if_pos h]
    rw [e, decide_eq_true h]
    obtain ⟨h1, h2, h3, h4⟩ := h
    have hle : c.sum.length ≤ p.list.length := by rw [← h2] at c3; unfold plen at p4; rw [if_pos p2] at p4; omega
    have hz : c.sum.length = (p.list.take c.sum.length).length := by rw [List.length_take]; omega
    have sS := l3Sum_s c.sum (p.list.take c.sum.length) hz (by omega)
    have sT := TypeLenL_s p.kind c.sum.length (by rw [h2]; omega)
    rw [decide_eq_false h3] at sH
    simp only [zipE_len hz, List.length_append, List.length_cons, List.length_nil]
    refine spec_mk ctx_mixed 9 Tryz.func51 rfl rfl (Nat.le_of_ble_eq_true rfl) 0 rfl ?_; conv => whnf
    repeat' ((first | (with_reducible first | refine d_chk ?_ | refine Br.tt ?_ | refine Br.ff ?_ | refine Br.beq ?_ | refine Br.bne ?_ | refine Br.nt ?_ | refine Br.nf ?_ | refine d_wrap ?_ | refine d_rem ?_ | refine d_nat ?_ | refine d_get (by omega) ?_ | refine Br.yesd ?_ | refine Br.nod ?_ | refine Br.yesn ?_ | refine Br.nodn ?_ | refine d_le ?_ | refine d_lt ?_ | refine And.intro ?_ ?_ | exact trivial | exact .inr rfl | rfl | refine sc_int | refine sc_bt ?_ | refine sc_bf ?_ | refine sc_bb ?_ | refine sc_bh ?_ | refine sc_ih ?_) | refine callW0 sH rfl trivial ?_ | refine callW0 sT rfl trivial ?_ | with_reducible refine d_left [(0, 3), (1, 7)] ?_ ?_ | (show (2 * (0 + (rows ci c.ids).length + 1) + 768) * 8 ≤ 281474976710656; omega) | (show (2 * (0 + (rows ci c.ids).length) + 768) * 8 ≤ 281474976710656; omega) | (refine callWln (f := 99) sS 1 ⟨trivial, rows_sc _, trivial⟩ ?_ ?_; focus ((repeat' (first | exact trivial | exact rfl | exact .inr rfl | exact .inl rfl | exact rows_dt _ _ | refine And.intro ?_ ?_)); done)) | exact fun h => by cases h | with_reducible refine Br.dec (fun _ => ?_) (fun _ => ?_) | with_reducible refine Br.decn (fun _ => ?_) (fun _ => ?_) | with_reducible refine d_left [] ?_ ?_ | exact rfl | exact Nat.le_of_ble_eq_true rfl | (refine Nat.le_of_eq ?_; simp [rows, seqI]; done) | refine call_go rfl rfl [] ?_ | (refine Hid.mk ?_; first | decide | omega | (simp <;> omega) | (intro e; subst e; omega) | (intro e; subst e; simp_all; done) | exact Prod.ext (by omega) (by omega))) <;> conv => whnf)
    · show 0 + (rows ci c.ids).length + 1 = _
      omega
    · show List.take (0 + (rows ci c.ids).length) (rows ci c.ids) ++ [ci p.id] = _
      rw [List.take_of_length_le (by omega)]
      simp only [rows, List.map_append, List.map_cons, List.map_nil]
  · have e : ctake c p = c := by unfold ctake; rw [if_neg h]
    rw [e, decide_eq_false h]
    refine spec_mk ctx_mixed 9 Tryz.func51 rfl rfl (Nat.le_of_ble_eq_true rfl) 0 rfl ?_; conv => whnf
    repeat' ((first | (with_reducible first | refine d_chk ?_ | refine Br.tt ?_ | refine Br.ff ?_ | refine Br.beq ?_ | refine Br.bne ?_ | refine Br.nt ?_ | refine Br.nf ?_ | refine d_wrap ?_ | refine d_rem ?_ | refine d_nat ?_ | refine d_get (by omega) ?_ | refine Br.yesd ?_ | refine Br.nod ?_ | refine Br.yesn ?_ | refine Br.nodn ?_ | refine d_le ?_ | refine d_lt ?_ | refine And.intro ?_ ?_ | exact trivial | exact .inr rfl | rfl | refine sc_int | refine sc_bt ?_ | refine sc_bf ?_ | refine sc_bb ?_ | refine sc_bh ?_ | refine sc_ih ?_) | refine callW0 sH rfl trivial ?_ | refine callWn sC 2 rfl ⟨⟨trivial, trivial, trivial, trivial, trivial⟩, rows_sc _, rows_sc _, trivial⟩ ?_ | with_reducible refine d_left [(0, 3), (1, 4)] ?_ ?_ | exact absurd ⟨by omega, by omega, by assumption, by omega⟩ h | with_reducible refine Br.dec (fun _ => ?_) (fun _ => ?_) | with_reducible refine Br.decn (fun _ => ?_) (fun _ => ?_) | with_reducible refine d_left [] ?_ ?_ | exact rfl | exact Nat.le_of_ble_eq_true rfl | (refine Nat.le_of_eq ?_; simp [rows, seqI]; done) | refine call_go rfl rfl [] ?_ | (refine Hid.mk ?_; first | decide | omega | (simp <;> omega) | (intro e; subst e; omega) | (intro e; subst e; simp_all; done) | exact Prod.ext (by omega) (by omega))) <;> conv => whnf)
theorem sColTake_n (c : Co) (p : Prt) (h1 : c.sum.length ≤ 1100000) (h2 : c.ids.length ≤ 1100000) (h3 : p.list.length ≤ 1100000) (h : ¬ (CoOk c ∧ PrOk p)) : Spec ctx 14 [.agg (coL c), prA p] [] (.tup [.agg [iv .i64 0, iv .i64 0, nilS, nilS], bv false]) [] := by
  have sC := sColOk_s c h1 h2
  have sP := sPartOk_s p h3
  refine spec_mk ctx_mixed 0 Tryz.func14 rfl rfl (Nat.le_of_ble_eq_true rfl) 0 rfl ?_; conv => whnf
  repeat' ((first | (with_reducible first | refine d_chk ?_ | refine Br.tt ?_ | refine Br.ff ?_ | refine Br.beq ?_ | refine Br.bne ?_ | refine Br.nt ?_ | refine Br.nf ?_ | refine d_wrap ?_ | refine d_rem ?_ | refine d_nat ?_ | refine d_get (by omega) ?_ | refine Br.yesd ?_ | refine Br.nod ?_ | refine Br.yesn ?_ | refine Br.nodn ?_ | refine d_le ?_ | refine d_lt ?_ | refine And.intro ?_ ?_ | exact trivial | exact .inr rfl | rfl | refine sc_int | refine sc_bt ?_ | refine sc_bf ?_ | refine sc_bb ?_ | refine sc_bh ?_ | refine sc_ih ?_) | refine callW0 sC rfl trivial ?_ | refine callW0 sP rfl trivial ?_ | exact absurd ⟨by assumption, by assumption⟩ h | with_reducible refine Br.dec (fun _ => ?_) (fun _ => ?_) | with_reducible refine Br.decn (fun _ => ?_) (fun _ => ?_) | with_reducible refine d_left [] ?_ ?_ | exact rfl | exact Nat.le_of_ble_eq_true rfl | (refine Nat.le_of_eq ?_; simp [rows, seqI]; done) | refine call_go rfl rfl [] ?_ | (refine Hid.mk ?_; first | decide | omega | (simp <;> omega) | (intro e; subst e; omega) | (intro e; subst e; simp_all; done) | exact Prod.ext (by omega) (by omega))) <;> conv => whnf)
theorem sColTake_s (c : Co) (p : Prt) (hc : CoOk c) (hp : PrOk p) : Spec ctx 14 [.agg (coL c), prA p] [] (.tup [cownA c.side c.kind (ctake c p).sum.length (ctake c p).ids.length, bv (decide (TakeOk c p))]) (cownH (ctake c p).sum (ctake c p).ids) := by
  have h0 := hc
  have h1 := hp
  obtain ⟨c1, ⟨c2, c3, c4⟩, c5, c6, c7⟩ := h0
  obtain ⟨p1, p2, p3, p4, p5⟩ := h1
  have hL := lenOf_le c.kind
  have hM := plen_le p.kind
  have sC := sColOk_s c (by omega) (by omega)
  have sP := sPartOk_s p (by omega)
  have sT := l22Take_s c p hc hp
  rw [decide_eq_true hc] at sC
  rw [decide_eq_true hp] at sP
  refine spec_mk ctx_mixed 9 Tryz.func14 rfl rfl (Nat.le_of_ble_eq_true rfl) 0 rfl ?_; conv => whnf
  repeat' ((first | (with_reducible first | refine d_chk ?_ | refine Br.tt ?_ | refine Br.ff ?_ | refine Br.beq ?_ | refine Br.bne ?_ | refine Br.nt ?_ | refine Br.nf ?_ | refine d_wrap ?_ | refine d_rem ?_ | refine d_nat ?_ | refine d_get (by omega) ?_ | refine Br.yesd ?_ | refine Br.nod ?_ | refine Br.yesn ?_ | refine Br.nodn ?_ | refine d_le ?_ | refine d_lt ?_ | refine And.intro ?_ ?_ | exact trivial | exact .inr rfl | rfl | refine sc_int | refine sc_bt ?_ | refine sc_bf ?_ | refine sc_bb ?_ | refine sc_bh ?_ | refine sc_ih ?_) | refine callW0 sC rfl trivial ?_ | refine callW0 sP rfl trivial ?_ | refine callWn sT 2 rfl ⟨⟨⟨trivial, trivial, trivial, trivial, trivial⟩, trivial, trivial⟩, rows_sc _, rows_sc _, trivial⟩ ?_ | with_reducible refine d_left [(0, 3), (1, 4)] ?_ ?_ | with_reducible refine Br.dec (fun _ => ?_) (fun _ => ?_) | with_reducible refine Br.decn (fun _ => ?_) (fun _ => ?_) | with_reducible refine d_left [] ?_ ?_ | exact rfl | exact Nat.le_of_ble_eq_true rfl | (refine Nat.le_of_eq ?_; simp [rows, seqI]; done) | refine call_go rfl rfl [] ?_ | (refine Hid.mk ?_; first | decide | omega | (simp <;> omega) | (intro e; subst e; omega) | (intro e; subst e; simp_all; done) | exact Prod.ext (by omega) (by omega))) <;> conv => whnf)
end Go.Proofs.YtekpddiahnaomaaGreatDoor.AW

/- Collectors: the laws' own helpers. -/
namespace Go.Proofs.YtekpddiahnaomaaGreatDoor.AW
open Go
set_option maxRecDepth 10000
theorem szIntS_s (a : List Int) (k : Int) (hl : a.length ≤ 9223372036854775807) (hk : 0 ≤ k ∧ k ≤ 1048576) : Spec ctx 50 [sl a none, iv .i64 k] [] (iv .i64 (if k - a.length < 0 then -1 else k - a.length)) [] := by
  have la := rows_len ci a
  by_cases g : k - a.length < 0
  · rw [if_pos g]
    refine spec_mk ctx_mixed 0 Tryz.func50 rfl rfl (Nat.le_of_ble_eq_true rfl) 0 rfl ?_; conv => whnf
    repeat' ((first | (with_reducible first | refine d_chk ?_ | refine Br.tt ?_ | refine Br.ff ?_ | refine Br.beq ?_ | refine Br.bne ?_ | refine Br.nt ?_ | refine Br.nf ?_ | refine d_wrap ?_ | refine d_rem ?_ | refine d_nat ?_ | refine d_get (by omega) ?_ | refine Br.yesd ?_ | refine Br.nod ?_ | refine Br.yesn ?_ | refine Br.nodn ?_ | refine d_le ?_ | refine d_lt ?_ | refine And.intro ?_ ?_ | exact trivial | exact .inr rfl | rfl | refine sc_int | refine sc_bt ?_ | refine sc_bf ?_ | refine sc_bb ?_ | refine sc_bh ?_ | refine sc_ih ?_) | with_reducible refine Br.dec (fun _ => ?_) (fun _ => ?_) | with_reducible refine Br.decn (fun _ => ?_) (fun _ => ?_) | with_reducible refine d_left [] ?_ ?_ | exact rfl | exact Nat.le_of_ble_eq_true rfl | (refine Nat.le_of_eq ?_; simp [rows, seqI]; done) | refine call_go rfl rfl [] ?_ | (refine Hid.mk ?_; first | decide | omega | (simp <;> omega) | (intro e; subst e; omega) | (intro e; subst e; simp_all; done) | exact Prod.ext (by omega) (by omega))) <;> conv => whnf)
  · rw [if_neg g]
    refine spec_mk ctx_mixed 0 Tryz.func50 rfl rfl (Nat.le_of_ble_eq_true rfl) 0 rfl ?_; conv => whnf
    repeat' ((first | (with_reducible first | refine d_chk ?_ | refine Br.tt ?_ | refine Br.ff ?_ | refine Br.beq ?_ | refine Br.bne ?_ | refine Br.nt ?_ | refine Br.nf ?_ | refine d_wrap ?_ | refine d_rem ?_ | refine d_nat ?_ | refine d_get (by omega) ?_ | refine Br.yesd ?_ | refine Br.nod ?_ | refine Br.yesn ?_ | refine Br.nodn ?_ | refine d_le ?_ | refine d_lt ?_ | refine And.intro ?_ ?_ | exact trivial | exact .inr rfl | rfl | refine sc_int | refine sc_bt ?_ | refine sc_bf ?_ | refine sc_bb ?_ | refine sc_bh ?_ | refine sc_ih ?_) | with_reducible refine Br.dec (fun _ => ?_) (fun _ => ?_) | with_reducible refine Br.decn (fun _ => ?_) (fun _ => ?_) | with_reducible refine d_left [] ?_ ?_ | exact rfl | exact Nat.le_of_ble_eq_true rfl | (refine Nat.le_of_eq ?_; simp [rows, seqI]; done) | refine call_go rfl rfl [] ?_ | (refine Hid.mk ?_; first | decide | omega | (simp <;> omega) | (intro e; subst e; omega) | (intro e; subst e; simp_all; done) | exact Prod.ext (by omega) (by omega))) <;> conv => whnf)
theorem toIntS_s (l : List Int) (hl : l.length ≤ 1048576) : Spec ctx 52 [sl l none] [] (.own 0 1 0 l.length none) [(0, some (.row 1 (rows ci l)))] := by
  have la := rows_len ci l
  refine spec_mk ctx_mixed 3 Tryz.func52 rfl rfl (Nat.le_of_ble_eq_true rfl) 0 rfl ?_; conv => whnf
  repeat' ((first | (with_reducible first | refine d_chk ?_ | refine Br.tt ?_ | refine Br.ff ?_ | refine Br.beq ?_ | refine Br.bne ?_ | refine Br.nt ?_ | refine Br.nf ?_ | refine d_wrap ?_ | refine d_rem ?_ | refine d_nat ?_ | refine d_get (by omega) ?_ | refine Br.yesd ?_ | refine Br.nod ?_ | refine Br.yesn ?_ | refine Br.nodn ?_ | refine d_le ?_ | refine d_lt ?_ | refine And.intro ?_ ?_ | exact trivial | exact .inr rfl | rfl | refine sc_int | refine sc_bt ?_ | refine sc_bf ?_ | refine sc_bb ?_ | refine sc_bh ?_ | refine sc_ih ?_) | exact Nat.le_trans (Nat.mul_le_mul_right _ hl) (by decide) | with_reducible refine Br.dec (fun _ => ?_) (fun _ => ?_) | with_reducible refine Br.decn (fun _ => ?_) (fun _ => ?_) | with_reducible refine d_left [] ?_ ?_ | exact rfl | exact Nat.le_of_ble_eq_true rfl | (refine Nat.le_of_eq ?_; simp [rows, seqI]; done) | refine call_go rfl rfl [] ?_ | (refine Hid.mk ?_; first | decide | omega | (simp <;> omega) | (intro e; subst e; omega) | (intro e; subst e; simp_all; done) | exact Prod.ext (by omega) (by omega))) <;> conv => whnf)
  refine AW.loopP2 (fun (i : Nat) (y : List Int) => ⟨[(0, sl l none), (3, .own 0 1 0 l.length none), (4, iv .i64 i)], [(0, some (.row 1 (rows ci y)))], 1⟩) (fun i y => i ≤ l.length ∧ y.length = l.length ∧ y.take i = l.take i) (fun i _ => l.length - i) 0 (List.replicate l.length 0) [(0, 0)] (d_sub _ ?_ ?_) ⟨by omega, by simp, by simp⟩ (fun i y ⟨hi, hy, ht⟩ => ?_) <;> (conv => whnf) <;>
  repeat' ((first | (with_reducible first | refine d_chk ?_ | refine Br.tt ?_ | refine Br.ff ?_ | refine Br.beq ?_ | refine Br.bne ?_ | refine Br.nt ?_ | refine Br.nf ?_ | refine d_wrap ?_ | refine d_rem ?_ | refine d_nat ?_ | refine d_get (by omega) ?_ | refine Br.yesd ?_ | refine Br.nod ?_ | refine Br.yesn ?_ | refine Br.nodn ?_ | refine d_le ?_ | refine d_lt ?_ | refine And.intro ?_ ?_ | exact trivial | exact .inr rfl | rfl | refine sc_int | refine sc_bt ?_ | refine sc_bf ?_ | refine sc_bb ?_ | refine sc_bh ?_ | refine sc_ih ?_) | refine d_end2 (i+1) (y.set i l[i]) [(0, 0)] (d_sub _ ?_ ?_) ?_ | with_reducible refine d_left [(0, 0)] ?_ ?_ | with_reducible refine Br.dec (fun _ => ?_) (fun _ => ?_) | with_reducible refine Br.decn (fun _ => ?_) (fun _ => ?_) | with_reducible refine d_left [] ?_ ?_ | exact rfl | exact Nat.le_of_ble_eq_true rfl | (refine Nat.le_of_eq ?_; simp [rows, seqI]; done) | refine call_go rfl rfl [] ?_ | (refine Hid.mk ?_; first | decide | omega | (simp <;> omega) | (intro e; subst e; omega) | (intro e; subst e; simp_all; done) | exact Prod.ext (by omega) (by omega))) <;> conv => whnf)
  · exact la
  · exact .inl rfl
  · rw [la]; simp only [rows, List.map_replicate]; rfl
  · exact (rows_set (i := 0 + i) rfl).trans (by simp)
  · refine ⟨by omega, by simpa using hy, ?_⟩
    rw [take_set (by omega), ht, List.take_succ_eq_append_getElem (by omega)]
  · have : i = l.length := by omega
    subst this
    rw [List.take_length, ← hy, List.take_length] at ht
    rw [ht]
abbrev colA (c : Co) (n m : Nat) : AV := .agg [iv .i64 c.side, iv .i64 c.kind, .own 0 1 0 n none, .own 1 1 0 m none]
theorem toCol_s (c : Co) (h1 : c.sum.length ≤ 1048576) (h2 : c.ids.length ≤ 1048576) : Spec ctx 15 [.agg (coL c)] [] (cownA c.side c.kind c.sum.length c.ids.length) (cownH c.sum c.ids) := by
  refine spec_mk ctx_mixed 9 Tryz.func15 rfl rfl (Nat.le_of_ble_eq_true rfl) 0 rfl ?_; conv => whnf
  repeat' ((first | (with_reducible first | refine d_chk ?_ | refine Br.tt ?_ | refine Br.ff ?_ | refine Br.beq ?_ | refine Br.bne ?_ | refine Br.nt ?_ | refine Br.nf ?_ | refine d_wrap ?_ | refine d_rem ?_ | refine d_nat ?_ | refine d_get (by omega) ?_ | refine Br.yesd ?_ | refine Br.nod ?_ | refine Br.yesn ?_ | refine Br.nodn ?_ | refine d_le ?_ | refine d_lt ?_ | refine And.intro ?_ ?_ | exact trivial | exact .inr rfl | rfl | refine sc_int | refine sc_bt ?_ | refine sc_bf ?_ | refine sc_bb ?_ | refine sc_bh ?_ | refine sc_ih ?_) | refine callWn (toIntS_s c.sum h1) 1 rfl ⟨trivial, rows_sc _, trivial⟩ ?_ | refine callWn (toIntS_s c.ids h2) 1 rfl ⟨trivial, rows_sc _, trivial⟩ ?_ | with_reducible refine d_left [(0, 3), (1, 4)] ?_ ?_ | with_reducible refine Br.dec (fun _ => ?_) (fun _ => ?_) | with_reducible refine Br.decn (fun _ => ?_) (fun _ => ?_) | with_reducible refine d_left [] ?_ ?_ | exact rfl | exact Nat.le_of_ble_eq_true rfl | (refine Nat.le_of_eq ?_; simp [rows, seqI]; done) | refine call_go rfl rfl [] ?_ | (refine Hid.mk ?_; first | decide | omega | (simp <;> omega) | (intro e; subst e; omega) | (intro e; subst e; simp_all; done) | exact Prod.ext (by omega) (by omega))) <;> conv => whnf)
theorem toPart_s (p : Prt) (h1 : p.list.length ≤ 1048576) : Spec ctx 16 [prA p] [] (.agg [iv .i64 p.id, iv .i64 p.kind, iv .i64 p.side, .own 0 1 0 p.list.length none]) [(0, some (.row 1 (rows ci p.list)))] := by
  refine spec_mk ctx_mixed 9 Tryz.func16 rfl rfl (Nat.le_of_ble_eq_true rfl) 0 rfl ?_; conv => whnf
  repeat' ((first | (with_reducible first | refine d_chk ?_ | refine Br.tt ?_ | refine Br.ff ?_ | refine Br.beq ?_ | refine Br.bne ?_ | refine Br.nt ?_ | refine Br.nf ?_ | refine d_wrap ?_ | refine d_rem ?_ | refine d_nat ?_ | refine d_get (by omega) ?_ | refine Br.yesd ?_ | refine Br.nod ?_ | refine Br.yesn ?_ | refine Br.nodn ?_ | refine d_le ?_ | refine d_lt ?_ | refine And.intro ?_ ?_ | exact trivial | exact .inr rfl | rfl | refine sc_int | refine sc_bt ?_ | refine sc_bf ?_ | refine sc_bb ?_ | refine sc_bh ?_ | refine sc_ih ?_) | refine callWn (toIntS_s p.list h1) 1 rfl ⟨trivial, rows_sc _, trivial⟩ ?_ | with_reducible refine d_left [(0, 3)] ?_ ?_ | with_reducible refine Br.dec (fun _ => ?_) (fun _ => ?_) | with_reducible refine Br.decn (fun _ => ?_) (fun _ => ?_) | with_reducible refine d_left [] ?_ ?_ | exact rfl | exact Nat.le_of_ble_eq_true rfl | (refine Nat.le_of_eq ?_; simp [rows, seqI]; done) | refine call_go rfl rfl [] ?_ | (refine Hid.mk ?_; first | decide | omega | (simp <;> omega) | (intro e; subst e; omega) | (intro e; subst e; simp_all; done) | exact Prod.ext (by omega) (by omega))) <;> conv => whnf)
theorem szCol_s (c : Co) (k : Int) (h1 : c.sum.length ≤ 9223372036854775807) (h2 : c.ids.length ≤ 9223372036854775807) (hk : 0 ≤ k ∧ k ≤ 1048576) : Spec ctx 12 [.agg (coL c), iv .i64 k] [] (iv .i64 (if k - c.sum.length < 0 then -1 else if k - c.sum.length - c.ids.length < 0 then -1 else k - c.sum.length - c.ids.length)) [] := by
  by_cases g : k - c.sum.length < 0
  · rw [if_pos g]
    have s1 := szIntS_s c.sum k h1 hk
    rw [if_pos g] at s1
    refine spec_mk ctx_mixed 0 Tryz.func12 rfl rfl (Nat.le_of_ble_eq_true rfl) 0 rfl ?_; conv => whnf
    repeat' ((first | (with_reducible first | refine d_chk ?_ | refine Br.tt ?_ | refine Br.ff ?_ | refine Br.beq ?_ | refine Br.bne ?_ | refine Br.nt ?_ | refine Br.nf ?_ | refine d_wrap ?_ | refine d_rem ?_ | refine d_nat ?_ | refine d_get (by omega) ?_ | refine Br.yesd ?_ | refine Br.nod ?_ | refine Br.yesn ?_ | refine Br.nodn ?_ | refine d_le ?_ | refine d_lt ?_ | refine And.intro ?_ ?_ | exact trivial | exact .inr rfl | rfl | refine sc_int | refine sc_bt ?_ | refine sc_bf ?_ | refine sc_bb ?_ | refine sc_bh ?_ | refine sc_ih ?_) | refine callW0 s1 rfl trivial ?_ | with_reducible refine Br.dec (fun _ => ?_) (fun _ => ?_) | with_reducible refine Br.decn (fun _ => ?_) (fun _ => ?_) | with_reducible refine d_left [] ?_ ?_ | exact rfl | exact Nat.le_of_ble_eq_true rfl | (refine Nat.le_of_eq ?_; simp [rows, seqI]; done) | refine call_go rfl rfl [] ?_ | (refine Hid.mk ?_; first | decide | omega | (simp <;> omega) | (intro e; subst e; omega) | (intro e; subst e; simp_all; done) | exact Prod.ext (by omega) (by omega))) <;> conv => whnf)
  · rw [if_neg g]
    have s1 := szIntS_s c.sum k h1 hk
    rw [if_neg g] at s1
    have s2 := szIntS_s c.ids (k - c.sum.length) h2 (by omega)
    by_cases g2 : k - c.sum.length - c.ids.length < 0
    · rw [if_pos g2] at s2 ⊢
      refine spec_mk ctx_mixed 0 Tryz.func12 rfl rfl (Nat.le_of_ble_eq_true rfl) 0 rfl ?_; conv => whnf
      repeat' ((first | (with_reducible first | refine d_chk ?_ | refine Br.tt ?_ | refine Br.ff ?_ | refine Br.beq ?_ | refine Br.bne ?_ | refine Br.nt ?_ | refine Br.nf ?_ | refine d_wrap ?_ | refine d_rem ?_ | refine d_nat ?_ | refine d_get (by omega) ?_ | refine Br.yesd ?_ | refine Br.nod ?_ | refine Br.yesn ?_ | refine Br.nodn ?_ | refine d_le ?_ | refine d_lt ?_ | refine And.intro ?_ ?_ | exact trivial | exact .inr rfl | rfl | refine sc_int | refine sc_bt ?_ | refine sc_bf ?_ | refine sc_bb ?_ | refine sc_bh ?_ | refine sc_ih ?_) | refine callW0 s1 rfl trivial ?_ | refine callW0 s2 rfl trivial ?_ | with_reducible refine Br.dec (fun _ => ?_) (fun _ => ?_) | with_reducible refine Br.decn (fun _ => ?_) (fun _ => ?_) | with_reducible refine d_left [] ?_ ?_ | exact rfl | exact Nat.le_of_ble_eq_true rfl | (refine Nat.le_of_eq ?_; simp [rows, seqI]; done) | refine call_go rfl rfl [] ?_ | (refine Hid.mk ?_; first | decide | omega | (simp <;> omega) | (intro e; subst e; omega) | (intro e; subst e; simp_all; done) | exact Prod.ext (by omega) (by omega))) <;> conv => whnf)
    · rw [if_neg g2] at s2 ⊢
      refine spec_mk ctx_mixed 0 Tryz.func12 rfl rfl (Nat.le_of_ble_eq_true rfl) 0 rfl ?_; conv => whnf
      repeat' ((first | (with_reducible first | refine d_chk ?_ | refine Br.tt ?_ | refine Br.ff ?_ | refine Br.beq ?_ | refine Br.bne ?_ | refine Br.nt ?_ | refine Br.nf ?_ | refine d_wrap ?_ | refine d_rem ?_ | refine d_nat ?_ | refine d_get (by omega) ?_ | refine Br.yesd ?_ | refine Br.nod ?_ | refine Br.yesn ?_ | refine Br.nodn ?_ | refine d_le ?_ | refine d_lt ?_ | refine And.intro ?_ ?_ | exact trivial | exact .inr rfl | rfl | refine sc_int | refine sc_bt ?_ | refine sc_bf ?_ | refine sc_bb ?_ | refine sc_bh ?_ | refine sc_ih ?_) | refine callW0 s1 rfl trivial ?_ | refine callW0 s2 rfl trivial ?_ | with_reducible refine Br.dec (fun _ => ?_) (fun _ => ?_) | with_reducible refine Br.decn (fun _ => ?_) (fun _ => ?_) | with_reducible refine d_left [] ?_ ?_ | exact rfl | exact Nat.le_of_ble_eq_true rfl | (refine Nat.le_of_eq ?_; simp [rows, seqI]; done) | refine call_go rfl rfl [] ?_ | (refine Hid.mk ?_; first | decide | omega | (simp <;> omega) | (intro e; subst e; omega) | (intro e; subst e; simp_all; done) | exact Prod.ext (by omega) (by omega))) <;> conv => whnf)
theorem szPart_s (p : Prt) (k : Int) (h1 : p.list.length ≤ 9223372036854775807) (hk : 0 ≤ k ∧ k ≤ 1048576) : Spec ctx 13 [prA p, iv .i64 k] [] (iv .i64 (if k - p.list.length < 0 then -1 else k - p.list.length)) [] := by
  have s1 := szIntS_s p.list k h1 hk
  by_cases g : k - p.list.length < 0
  · rw [if_pos g] at s1 ⊢
    refine spec_mk ctx_mixed 0 Tryz.func13 rfl rfl (Nat.le_of_ble_eq_true rfl) 0 rfl ?_; conv => whnf
    repeat' ((first | (with_reducible first | refine d_chk ?_ | refine Br.tt ?_ | refine Br.ff ?_ | refine Br.beq ?_ | refine Br.bne ?_ | refine Br.nt ?_ | refine Br.nf ?_ | refine d_wrap ?_ | refine d_rem ?_ | refine d_nat ?_ | refine d_get (by omega) ?_ | refine Br.yesd ?_ | refine Br.nod ?_ | refine Br.yesn ?_ | refine Br.nodn ?_ | refine d_le ?_ | refine d_lt ?_ | refine And.intro ?_ ?_ | exact trivial | exact .inr rfl | rfl | refine sc_int | refine sc_bt ?_ | refine sc_bf ?_ | refine sc_bb ?_ | refine sc_bh ?_ | refine sc_ih ?_) | refine callW0 s1 rfl trivial ?_ | with_reducible refine Br.dec (fun _ => ?_) (fun _ => ?_) | with_reducible refine Br.decn (fun _ => ?_) (fun _ => ?_) | with_reducible refine d_left [] ?_ ?_ | exact rfl | exact Nat.le_of_ble_eq_true rfl | (refine Nat.le_of_eq ?_; simp [rows, seqI]; done) | refine call_go rfl rfl [] ?_ | (refine Hid.mk ?_; first | decide | omega | (simp <;> omega) | (intro e; subst e; omega) | (intro e; subst e; simp_all; done) | exact Prod.ext (by omega) (by omega))) <;> conv => whnf)
  · rw [if_neg g] at s1 ⊢
    refine spec_mk ctx_mixed 0 Tryz.func13 rfl rfl (Nat.le_of_ble_eq_true rfl) 0 rfl ?_; conv => whnf
    repeat' ((first | (with_reducible first | refine d_chk ?_ | refine Br.tt ?_ | refine Br.ff ?_ | refine Br.beq ?_ | refine Br.bne ?_ | refine Br.nt ?_ | refine Br.nf ?_ | refine d_wrap ?_ | refine d_rem ?_ | refine d_nat ?_ | refine d_get (by omega) ?_ | refine Br.yesd ?_ | refine Br.nod ?_ | refine Br.yesn ?_ | refine Br.nodn ?_ | refine d_le ?_ | refine d_lt ?_ | refine And.intro ?_ ?_ | exact trivial | exact .inr rfl | rfl | refine sc_int | refine sc_bt ?_ | refine sc_bf ?_ | refine sc_bb ?_ | refine sc_bh ?_ | refine sc_ih ?_) | refine callW0 s1 rfl trivial ?_ | with_reducible refine Br.dec (fun _ => ?_) (fun _ => ?_) | with_reducible refine Br.decn (fun _ => ?_) (fun _ => ?_) | with_reducible refine d_left [] ?_ ?_ | exact rfl | exact Nat.le_of_ble_eq_true rfl | (refine Nat.le_of_eq ?_; simp [rows, seqI]; done) | refine call_go rfl rfl [] ?_ | (refine Hid.mk ?_; first | decide | omega | (simp <;> omega) | (intro e; subst e; omega) | (intro e; subst e; simp_all; done) | exact Prod.ext (by omega) (by omega))) <;> conv => whnf)
theorem markCol2_s (k side kind : Int) (n m : Nat) (x y : List Int) (hx : x.length = n) (hy : y.length = m) (hk : 0 ≤ k ∧ k ≤ 10000000) (hn : n ≤ 10000000) (hm : m ≤ 10000000) : Spec ctx 20 [.agg [iv .i64 side, iv .i64 kind, .own 0 1 0 n none, .own 1 1 0 m none], iv .i64 k] [.row 1 (rows ci x), .row 1 (rows ci y)] (iv .i64 (k + n + m)) [(0, some (.row 1 (rows ci (seqI k n)))), (1, some (.row 1 (rows ci (seqI (k + n) m))))] := by
  refine spec_mk ctx_mixed 3 Tryz.func20 rfl rfl (Nat.le_of_ble_eq_true rfl) 2 rfl ?_; conv => whnf
  repeat' ((first | (with_reducible first | refine d_chk ?_ | refine Br.tt ?_ | refine Br.ff ?_ | refine Br.beq ?_ | refine Br.bne ?_ | refine Br.nt ?_ | refine Br.nf ?_ | refine d_wrap ?_ | refine d_rem ?_ | refine d_nat ?_ | refine d_get (by omega) ?_ | refine Br.yesd ?_ | refine Br.nod ?_ | refine Br.yesn ?_ | refine Br.nodn ?_ | refine d_le ?_ | refine d_lt ?_ | refine And.intro ?_ ?_ | exact trivial | exact .inr rfl | rfl | refine sc_int | refine sc_bt ?_ | refine sc_bf ?_ | refine sc_bb ?_ | refine sc_bh ?_ | refine sc_ih ?_) | (refine call_go (f := 57) rfl rfl [0] ?_; (conv => whnf); refine callWp (markIntS_s k n x hx (by omega) (by omega)) ?_ ?_; focus ((repeat' (first | exact trivial | exact rfl | exact .inr rfl | exact .inl rfl | refine And.intro ?_ ?_)); done)) | (refine call_go (f := 57) rfl rfl [1] ?_; (conv => whnf); refine callWp (markIntS_s (k + n) m y hy (by omega) (by omega)) ?_ ?_; focus ((repeat' (first | exact trivial | exact rfl | exact .inr rfl | exact .inl rfl | refine And.intro ?_ ?_)); done)) | with_reducible refine d_left [(0, 0), (1, 1)] ?_ ?_ | with_reducible refine Br.dec (fun _ => ?_) (fun _ => ?_) | with_reducible refine Br.decn (fun _ => ?_) (fun _ => ?_) | with_reducible refine d_left [] ?_ ?_ | exact rfl | exact Nat.le_of_ble_eq_true rfl | (refine Nat.le_of_eq ?_; simp [rows, seqI]; done) | refine call_go rfl rfl [] ?_ | (refine Hid.mk ?_; first | decide | omega | (simp <;> omega) | (intro e; subst e; omega) | (intro e; subst e; simp_all; done) | exact Prod.ext (by omega) (by omega))) <;> conv => whnf)
theorem markPart_s (k id kind side : Int) (n : Nat) (x : List Int) (hx : x.length = n) (hk : 0 ≤ k ∧ k ≤ 100000000) (hn : n ≤ 10000000) : Spec ctx 21 [.agg [iv .i64 id, iv .i64 kind, iv .i64 side, .own 0 1 0 n none], iv .i64 k] [.row 1 (rows ci x)] (iv .i64 (k + n)) [(0, some (.row 1 (rows ci (seqI k n))))] := by
  refine spec_mk ctx_mixed 2 Tryz.func21 rfl rfl (Nat.le_of_ble_eq_true rfl) 1 rfl ?_; conv => whnf
  repeat' ((first | (with_reducible first | refine d_chk ?_ | refine Br.tt ?_ | refine Br.ff ?_ | refine Br.beq ?_ | refine Br.bne ?_ | refine Br.nt ?_ | refine Br.nf ?_ | refine d_wrap ?_ | refine d_rem ?_ | refine d_nat ?_ | refine d_get (by omega) ?_ | refine Br.yesd ?_ | refine Br.nod ?_ | refine Br.yesn ?_ | refine Br.nodn ?_ | refine d_le ?_ | refine d_lt ?_ | refine And.intro ?_ ?_ | exact trivial | exact .inr rfl | rfl | refine sc_int | refine sc_bt ?_ | refine sc_bf ?_ | refine sc_bb ?_ | refine sc_bh ?_ | refine sc_ih ?_) | (refine call_go (f := 57) rfl rfl [0] ?_; (conv => whnf); refine callWp (markIntS_s k n x hx (by omega) (by omega)) ?_ ?_; focus ((repeat' (first | exact trivial | exact rfl | exact .inr rfl | exact .inl rfl | refine And.intro ?_ ?_)); done)) | with_reducible refine d_left [(0, 0)] ?_ ?_ | with_reducible refine Br.dec (fun _ => ?_) (fun _ => ?_) | with_reducible refine Br.decn (fun _ => ?_) (fun _ => ?_) | with_reducible refine d_left [] ?_ ?_ | exact rfl | exact Nat.le_of_ble_eq_true rfl | (refine Nat.le_of_eq ?_; simp [rows, seqI]; done) | refine call_go rfl rfl [] ?_ | (refine Hid.mk ?_; first | decide | omega | (simp <;> omega) | (intro e; subst e; omega) | (intro e; subst e; simp_all; done) | exact Prod.ext (by omega) (by omega))) <;> conv => whnf)
theorem heldCol2_s (k side kind : Int) (n m : Nat) (hk : 0 ≤ k ∧ k ≤ 10000000) (hn : n ≤ 10000000) (hm : m ≤ 10000000) : Spec ctx 22 [.agg [iv .i64 side, iv .i64 kind, sl (seqI k n) none, sl (seqI (k + n) m) none], iv .i64 k] [] (iv .i64 (k + n + m)) [] := by
  refine spec_mk ctx_mixed 0 Tryz.func22 rfl rfl (Nat.le_of_ble_eq_true rfl) 0 rfl ?_; conv => whnf
  repeat' ((first | (with_reducible first | refine d_chk ?_ | refine Br.tt ?_ | refine Br.ff ?_ | refine Br.beq ?_ | refine Br.bne ?_ | refine Br.nt ?_ | refine Br.nf ?_ | refine d_wrap ?_ | refine d_rem ?_ | refine d_nat ?_ | refine d_get (by omega) ?_ | refine Br.yesd ?_ | refine Br.nod ?_ | refine Br.yesn ?_ | refine Br.nodn ?_ | refine d_le ?_ | refine d_lt ?_ | refine And.intro ?_ ?_ | exact trivial | exact .inr rfl | rfl | refine sc_int | refine sc_bt ?_ | refine sc_bf ?_ | refine sc_bb ?_ | refine sc_bh ?_ | refine sc_ih ?_) | refine callW0 (heldIntS_s k n (by omega) (by omega)) rfl trivial ?_ | refine callW0 (heldIntS_s (k + n) m (by omega) (by omega)) rfl trivial ?_ | with_reducible refine Br.dec (fun _ => ?_) (fun _ => ?_) | with_reducible refine Br.decn (fun _ => ?_) (fun _ => ?_) | with_reducible refine d_left [] ?_ ?_ | exact rfl | exact Nat.le_of_ble_eq_true rfl | (refine Nat.le_of_eq ?_; simp [rows, seqI]; done) | refine call_go rfl rfl [] ?_ | (refine Hid.mk ?_; first | decide | omega | (simp <;> omega) | (intro e; subst e; omega) | (intro e; subst e; simp_all; done) | exact Prod.ext (by omega) (by omega))) <;> conv => whnf)
end Go.Proofs.YtekpddiahnaomaaGreatDoor.AW
