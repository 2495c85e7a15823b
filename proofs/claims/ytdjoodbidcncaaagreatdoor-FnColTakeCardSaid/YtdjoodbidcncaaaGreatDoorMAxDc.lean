/- Collectors and parts: which are valid; sums. -/
import Derived.Test.YtdjoodbidcncaaaGreatDoorMAxU
import Derived.Test.YtdjoodbidcncaaaGreatDoorMAxDa
import Derived.Test.YtdjoodbidcncaaaGreatDoorMAxEw
import Derived.OpenShut
set_option linter.unusedVariables false
set_option linter.unusedSimpArgs false
namespace Go.Proofs.YtdjoodbidcncaaaGreatDoor.AW
open Go
set_option maxRecDepth 10000
theorem lenOf_le (k : Int) : 0 ≤ lenOf k ∧ lenOf k ≤ 4 := by unfold lenOf; omega
theorem lenOf_no {k : Int} (h : ¬(1 ≤ k ∧ k ≤ 3)) : lenOf k = 0 := by unfold lenOf; omega
theorem iTypeLenG_s (n : Int) : Spec ctx 23 [iv .i64 n] [] (iv .i64 (lenOf n)) [] := by
  by_cases h : 1 ≤ n ∧ n ≤ 3
  · exact iTypeLen_s n h
  · rw [lenOf_no h]
    refine spec_mk ctx_mixed ctx_enters 0 Tryz.func23 rfl rfl (Nat.le_of_ble_eq_true rfl) 0 rfl ?_; conv => whnf
    repeat' ((first | (with_reducible first | refine d_chk ?_ | refine Br.tt ?_ | refine Br.ff ?_ | refine Br.beq ?_ | refine Br.bne ?_ | refine Br.nt ?_ | refine Br.nf ?_ | refine d_wrap ?_ | refine d_rem ?_ | refine d_nat ?_ | refine d_get (by omega) ?_ | refine Br.yesd ?_ | refine Br.nod ?_ | refine Br.yesn ?_ | refine Br.nodn ?_ | refine d_le ?_ | refine d_lt ?_ | refine And.intro ?_ ?_ | exact trivial | exact .inr rfl | rfl | refine sc_int | refine sc_bt ?_ | refine sc_bf ?_ | refine sc_bb ?_ | refine sc_bh ?_ | refine sc_ih ?_) | refine callW0 (measureOf0_s _ h) rfl trivial ?_ | with_reducible refine Br.dec (fun _ => ?_) (fun _ => ?_) | with_reducible refine Br.decn (fun _ => ?_) (fun _ => ?_) | with_reducible refine d_left [] ?_ ?_ | exact rfl | exact Nat.le_of_ble_eq_true rfl | (refine Nat.le_of_eq ?_; simp [rows, seqI]; done) | refine call_go rfl rfl [] ?_ | (refine Hid.mk ?_; first | decide | omega | (simp <;> omega) | (intro e; subst e; omega) | (intro e; subst e; simp_all; done) | exact Prod.ext (by omega) (by omega))) <;> conv => whnf)
def VecOk (k : Int) (v : List Int) : Prop := (1 ≤ k ∧ k ≤ 3) ∧ (v.length : Int) = lenOf k ∧ ∀ x ∈ v, okE x
instance (k : Int) (v : List Int) : Decidable (VecOk k v) := by unfold VecOk; infer_instance
def CoOk (c : Co) : Prop := (1 ≤ c.side ∧ c.side ≤ 2) ∧ VecOk c.kind c.sum ∧ c.ids.Nodup ∧ (c.ids.length : Int) ≤ 9 ∧ ∀ x ∈ c.ids, idO x
instance (c : Co) : Decidable (CoOk c) := by unfold CoOk; infer_instance
def plen (k : Int) : Int := if 1 ≤ k ∧ k ≤ 3 then 3 * lenOf k + 3 else 0
def PrOk (p : Prt) : Prop := idO p.id ∧ (1 ≤ p.kind ∧ p.kind ≤ 3) ∧ (1 ≤ p.side ∧ p.side ≤ 2) ∧ (p.list.length : Int) = plen p.kind ∧ ∀ x ∈ p.list, okE x
instance (p : Prt) : Decidable (PrOk p) := by unfold PrOk; infer_instance
theorem vec_iff (k : Int) (v : List Int) : ((1 ≤ k ∧ k ≤ 3) ∧ (v.length : Int) = lenOf k ∧ (v.length : Int) ≤ 20 ∧ ∀ x ∈ v, okE x) ↔ VecOk k v := by
  have := lenOf_le k
  exact ⟨fun h => ⟨h.1, h.2.1, h.2.2.2⟩, fun h => ⟨h.1, h.2.1, by have := h.2.1; omega, h.2.2⟩⟩
theorem plen_le (k : Int) : 0 ≤ plen k ∧ plen k ≤ 15 := by have := lenOf_le k; unfold plen; split <;> omega
theorem iColOk_s (c : Co) (h1 : c.sum.length ≤ 1100000) (h2 : c.ids.length ≤ 1100000) : Spec ctx 25 [.agg (coL c)] [] (bv (decide (CoOk c))) [] := by
  have la := rows_len ci c.sum
  have lb := rows_len ci c.ids
  have sS := sized_s c.kind (lenOf c.kind) c.sum (by omega)
  rw [decide_eq_decide.2 (vec_iff c.kind c.sum)] at sS
  refine spec_mk ctx_mixed ctx_enters 0 Tryz.func25 rfl rfl (Nat.le_of_ble_eq_true rfl) 0 rfl ?_; conv => whnf
  repeat' ((first | (with_reducible first | refine d_chk ?_ | refine Br.tt ?_ | refine Br.ff ?_ | refine Br.beq ?_ | refine Br.bne ?_ | refine Br.nt ?_ | refine Br.nf ?_ | refine d_wrap ?_ | refine d_rem ?_ | refine d_nat ?_ | refine d_get (by omega) ?_ | refine Br.yesd ?_ | refine Br.nod ?_ | refine Br.yesn ?_ | refine Br.nodn ?_ | refine d_le ?_ | refine d_lt ?_ | refine And.intro ?_ ?_ | exact trivial | exact .inr rfl | rfl | refine sc_int | refine sc_bt ?_ | refine sc_bf ?_ | refine sc_bb ?_ | refine sc_bh ?_ | refine sc_ih ?_) | refine callW0 (within_s _ _ _) rfl trivial ?_ | refine callW0 (iTypeLenG_s _) rfl trivial ?_ | refine callW0 sS rfl trivial ?_ | refine callW0 (idsOk_s c.ids _ h2) rfl trivial ?_ | with_reducible refine Br.dec (fun _ => ?_) (fun _ => ?_) | with_reducible refine Br.decn (fun _ => ?_) (fun _ => ?_) | with_reducible refine d_left [] ?_ ?_ | exact rfl | exact Nat.le_of_ble_eq_true rfl | (refine Nat.le_of_eq ?_; simp [rows, seqI]; done) | refine call_go rfl rfl [] ?_ | (refine Hid.mk ?_; first | decide | omega | (simp <;> omega) | (intro e; subst e; omega) | (intro e; subst e; simp_all; done) | exact Prod.ext (by omega) (by omega))) <;> conv => whnf)
  · rename_i g1 g2; exact ⟨⟨fun g => ⟨g1, g2, g⟩, fun g => g.2.2⟩⟩
  · rename_i g1 g2; exact ⟨fun g => g2 g.2.1⟩
  · rename_i g1; exact ⟨fun g => g1 g.1⟩
theorem l22Has_s (l : List Int) (n : Int) (hl : l.length ≤ 1100000) : Spec ctx 66 [sl l none, iv .i64 n] [] (bv (decide (n ∈ l))) [] := by
  have la := rows_len ci l
  refine spec_mk ctx_mixed ctx_enters 0 Tryz.func66 rfl rfl (Nat.le_of_ble_eq_true rfl) 0 rfl ?_; conv => whnf
  repeat' ((first | (with_reducible first | refine d_chk ?_ | refine Br.tt ?_ | refine Br.ff ?_ | refine Br.beq ?_ | refine Br.bne ?_ | refine Br.nt ?_ | refine Br.nf ?_ | refine d_wrap ?_ | refine d_rem ?_ | refine d_nat ?_ | refine d_get (by omega) ?_ | refine Br.yesd ?_ | refine Br.nod ?_ | refine Br.yesn ?_ | refine Br.nodn ?_ | refine d_le ?_ | refine d_lt ?_ | refine And.intro ?_ ?_ | exact trivial | exact .inr rfl | rfl | refine sc_int | refine sc_bt ?_ | refine sc_bf ?_ | refine sc_bb ?_ | refine sc_bh ?_ | refine sc_ih ?_) | with_reducible refine Br.dec (fun _ => ?_) (fun _ => ?_) | with_reducible refine Br.decn (fun _ => ?_) (fun _ => ?_) | with_reducible refine d_left [] ?_ ?_ | exact rfl | exact Nat.le_of_ble_eq_true rfl | (refine Nat.le_of_eq ?_; simp [rows, seqI]; done) | refine call_go rfl rfl [] ?_ | (refine Hid.mk ?_; first | decide | omega | (simp <;> omega) | (intro e; subst e; omega) | (intro e; subst e; simp_all; done) | exact Prod.ext (by omega) (by omega))) <;> conv => whnf)
  refine AW.loopP (fun i : Nat => ⟨[(0, sl l none), (1, iv .i64 n), (5, iv .i64 i)], [], 0⟩) (fun i => i ≤ l.length ∧ n ∉ l.take i) (fun i => l.length - i) 0 [] (d_sub _ ?_ ?_) ⟨by simp, by simp⟩ (fun i ⟨hi, ht⟩ => ?_) <;> (conv => whnf) <;>
  repeat' ((first | (with_reducible first | refine d_chk ?_ | refine Br.tt ?_ | refine Br.ff ?_ | refine Br.beq ?_ | refine Br.bne ?_ | refine Br.nt ?_ | refine Br.nf ?_ | refine d_wrap ?_ | refine d_rem ?_ | refine d_nat ?_ | refine d_get (by omega) ?_ | refine Br.yesd ?_ | refine Br.nod ?_ | refine Br.yesn ?_ | refine Br.nodn ?_ | refine d_le ?_ | refine d_lt ?_ | refine And.intro ?_ ?_ | exact trivial | exact .inr rfl | rfl | refine sc_int | refine sc_bt ?_ | refine sc_bf ?_ | refine sc_bb ?_ | refine sc_bh ?_ | refine sc_ih ?_) | refine d_end (i+1) [] (d_sub _ ?_ ?_) ?_ | with_reducible refine Br.dec (fun _ => ?_) (fun _ => ?_) | with_reducible refine Br.decn (fun _ => ?_) (fun _ => ?_) | with_reducible refine d_left [] ?_ ?_ | exact rfl | exact Nat.le_of_ble_eq_true rfl | (refine Nat.le_of_eq ?_; simp [rows, seqI]; done) | refine call_go rfl rfl [] ?_ | (refine Hid.mk ?_; first | decide | omega | (simp <;> omega) | (intro e; subst e; omega) | (intro e; subst e; simp_all; done) | exact Prod.ext (by omega) (by omega))) <;> conv => whnf)
  · rename_i g; exact ⟨by rw [← g]; exact List.getElem_mem _⟩
  · rename_i g; refine ⟨by omega, ?_⟩; rw [List.take_succ_eq_append_getElem (by omega)]; simp only [List.mem_append, List.mem_singleton]; exact fun q => q.elim ht fun q => g q.symm
  · rw [List.take_of_length_le (by omega)] at ht; exact ⟨ht⟩
theorem l11Vec_s (k : Int) (l : List Int) (hl : l.length ≤ 1100000) : Spec ctx 67 [iv .i64 k, sl l none] [] (bv (decide (VecOk k l))) [] := by
  have la := rows_len ci l
  refine spec_mk ctx_mixed ctx_enters 0 Tryz.func67 rfl rfl (Nat.le_of_ble_eq_true rfl) 0 rfl ?_; conv => whnf
  repeat' ((first | (with_reducible first | refine d_chk ?_ | refine Br.tt ?_ | refine Br.ff ?_ | refine Br.beq ?_ | refine Br.bne ?_ | refine Br.nt ?_ | refine Br.nf ?_ | refine d_wrap ?_ | refine d_rem ?_ | refine d_nat ?_ | refine d_get (by omega) ?_ | refine Br.yesd ?_ | refine Br.nod ?_ | refine Br.yesn ?_ | refine Br.nodn ?_ | refine d_le ?_ | refine d_lt ?_ | refine And.intro ?_ ?_ | exact trivial | exact .inr rfl | rfl | refine sc_int | refine sc_bt ?_ | refine sc_bf ?_ | refine sc_bb ?_ | refine sc_bh ?_ | refine sc_ih ?_) | refine callW0 (l11Kind_s _) rfl trivial ?_ | refine callW0 (sShareOk_s l (by omega)) rfl trivial ?_ | refine callW0 (TypeLen_s _) rfl trivial ?_ | with_reducible refine Br.dec (fun _ => ?_) (fun _ => ?_) | with_reducible refine Br.decn (fun _ => ?_) (fun _ => ?_) | with_reducible refine d_left [] ?_ ?_ | exact rfl | exact Nat.le_of_ble_eq_true rfl | (refine Nat.le_of_eq ?_; simp [rows, seqI]; done) | refine call_go rfl rfl [] ?_ | (refine Hid.mk ?_; first | decide | omega | (simp <;> omega) | (intro e; subst e; omega) | (intro e; subst e; simp_all; done) | exact Prod.ext (by omega) (by omega))) <;> conv => whnf)
  · rename_i g1 g2; rw [la]; exact ⟨⟨fun g => ⟨g1, g, g2.2⟩, fun g => g.2.1⟩⟩
  · rename_i g1 g2; have := lenOf_le k; exact ⟨fun g => g2 ⟨by have := g.2.1; omega, g.2.2⟩⟩
  · rename_i g1; exact ⟨fun g => g1 g.1⟩
theorem rows_td (l : List Int) (k : Nat) : List.take k (List.drop 0 (rows ci l)) = rows ci (l.take k) := by simp [rows, List.map_take]
theorem rows_tk (l : List Int) (k : Nat) : List.take k (rows ci l) = rows ci (l.take k) := by simp [rows, List.map_take]
theorem nodup_more {l : List Int} {i : Nat} (h : i < l.length) : (l.take (i + 1)).Nodup ↔ (l.take i).Nodup ∧ l[i] ∉ l.take i := by
  rw [List.take_succ_eq_append_getElem h, List.nodup_append]
  exact ⟨fun ⟨a, _, b⟩ => ⟨a, fun q => b _ q _ (by simp) rfl⟩, fun ⟨a, b⟩ => ⟨a, by simp, fun x hx y hy e => b (by simp at hy; rw [← hy, ← e]; exact hx)⟩⟩
theorem rows_dt (l : List Int) (k : Nat) : List.drop 0 (List.take k (rows ci l)) = rows ci (l.take k) := by simp [rows, List.map_take]
theorem sColOk_s (c : Co) (h1 : c.sum.length ≤ 1100000) (h2 : c.ids.length ≤ 1100000) : Spec ctx 19 [.agg (coL c)] [] (bv (decide (CoOk c))) [] := by
  have la := rows_len ci c.sum
  have lb := rows_len ci c.ids
  refine spec_mk ctx_mixed ctx_enters 0 Tryz.func19 rfl rfl (Nat.le_of_ble_eq_true rfl) 0 rfl ?_; conv => whnf
  repeat' ((first | (with_reducible first | refine d_chk ?_ | refine Br.tt ?_ | refine Br.ff ?_ | refine Br.beq ?_ | refine Br.bne ?_ | refine Br.nt ?_ | refine Br.nf ?_ | refine d_wrap ?_ | refine d_rem ?_ | refine d_nat ?_ | refine d_get (by omega) ?_ | refine Br.yesd ?_ | refine Br.nod ?_ | refine Br.yesn ?_ | refine Br.nodn ?_ | refine d_le ?_ | refine d_lt ?_ | refine And.intro ?_ ?_ | exact trivial | exact .inr rfl | rfl | refine sc_int | refine sc_bt ?_ | refine sc_bf ?_ | refine sc_bb ?_ | refine sc_bh ?_ | refine sc_ih ?_) | with_reducible refine Br.dec (fun _ => ?_) (fun _ => ?_) | with_reducible refine Br.decn (fun _ => ?_) (fun _ => ?_) | with_reducible refine d_left [] ?_ ?_ | exact rfl | exact Nat.le_of_ble_eq_true rfl | (refine Nat.le_of_eq ?_; simp [rows, seqI]; done) | refine call_go rfl rfl [] ?_ | (refine Hid.mk ?_; first | decide | omega | (simp <;> omega) | (intro e; subst e; omega) | (intro e; subst e; simp_all; done) | exact Prod.ext (by omega) (by omega))) <;> conv => whnf)
  refine AW.loopP (fun i : Nat => ⟨[(1, .ptr 0 4 0 0), (3, iv .i64 i)], [(0, some (.box (coL c)))], 1⟩) (fun i => i ≤ c.ids.length ∧ (c.ids.take i).Nodup ∧ ∀ x ∈ c.ids.take i, idO x) (fun i => c.ids.length - i) 0 [(0, 0)] (d_sub _ ?_ ?_) ⟨by simp, by simp, by simp⟩ (fun i ⟨hi, ht, hx⟩ => ?_) <;> (conv => whnf) <;>
  repeat' ((first | (with_reducible first | refine d_chk ?_ | refine Br.tt ?_ | refine Br.ff ?_ | refine Br.beq ?_ | refine Br.bne ?_ | refine Br.nt ?_ | refine Br.nf ?_ | refine d_wrap ?_ | refine d_rem ?_ | refine d_nat ?_ | refine d_get (by omega) ?_ | refine Br.yesd ?_ | refine Br.nod ?_ | refine Br.yesn ?_ | refine Br.nodn ?_ | refine d_le ?_ | refine d_lt ?_ | refine And.intro ?_ ?_ | exact trivial | exact .inr rfl | rfl | refine sc_int | refine sc_bt ?_ | refine sc_bf ?_ | refine sc_bb ?_ | refine sc_bh ?_ | refine sc_ih ?_) | refine d_end (i+1) [(0, 0)] (d_sub _ ?_ ?_) ?_ | refine callW0 (l6In_s _ _ _) rfl trivial ?_ | refine callW0 (l11Vec_s _ _ h1) rfl trivial ?_ | (refine callWl (f := 66) (l22Has_s (c.ids.take i) c.ids[i] (Nat.le_trans (List.length_take_le' _ _) h2)) trivial ?_ ?_; focus ((repeat' (first | exact trivial | exact rfl | exact .inr rfl | exact .inl rfl | exact rows_td _ _ | refine And.intro ?_ ?_)); done)) | exact fun h => by cases h | with_reducible refine Br.dec (fun _ => ?_) (fun _ => ?_) | with_reducible refine Br.decn (fun _ => ?_) (fun _ => ?_) | with_reducible refine d_left [] ?_ ?_ | exact rfl | exact Nat.le_of_ble_eq_true rfl | (refine Nat.le_of_eq ?_; simp [rows, seqI]; done) | refine call_go rfl rfl [] ?_ | (refine Hid.mk ?_; first | decide | omega | (simp <;> omega) | (intro e; subst e; omega) | (intro e; subst e; simp_all; done) | exact Prod.ext (by omega) (by omega))) <;> conv => whnf)
  · rename_i g; exact ⟨fun q => g (q.2.2.2.2 _ (List.getElem_mem _))⟩
  · rename_i g; exact ⟨fun q => ((nodup_more (by omega)).1 (q.2.2.1.sublist (List.take_sublist (i + 1) _))).2 g⟩
  · rename_i g1 g2
    refine ⟨by omega, (nodup_more (by omega)).2 ⟨ht, g2⟩, fun x q => ?_⟩
    rw [List.take_succ_eq_append_getElem (by omega)] at q
    rcases List.mem_append.1 q with q | q
    · exact hx x q
    · simp at q; subst q; exact g1
  · rename_i g1 g2
    rw [List.take_of_length_le (by omega)] at ht hx
    rw [lb]
    exact ⟨⟨fun g => ⟨g1, g2, ht, g, hx⟩, fun g => g.2.2.2.1⟩⟩
  · rename_i g1; exact ⟨fun g => g1 g.2.1⟩
  · rename_i g1; exact ⟨fun g => g1 g.1⟩
theorem sPartOk_s (p : Prt) (h1 : p.list.length ≤ 1100000) : Spec ctx 20 [prA p] [] (bv (decide (PrOk p))) [] := by
  have la := rows_len ci p.list
  refine spec_mk ctx_mixed ctx_enters 0 Tryz.func20 rfl rfl (Nat.le_of_ble_eq_true rfl) 0 rfl ?_; conv => whnf
  repeat' ((first | (with_reducible first | refine d_chk ?_ | refine Br.tt ?_ | refine Br.ff ?_ | refine Br.beq ?_ | refine Br.bne ?_ | refine Br.nt ?_ | refine Br.nf ?_ | refine d_wrap ?_ | refine d_rem ?_ | refine d_nat ?_ | refine d_get (by omega) ?_ | refine Br.yesd ?_ | refine Br.nod ?_ | refine Br.yesn ?_ | refine Br.nodn ?_ | refine d_le ?_ | refine d_lt ?_ | refine And.intro ?_ ?_ | exact trivial | exact .inr rfl | rfl | refine sc_int | refine sc_bt ?_ | refine sc_bf ?_ | refine sc_bb ?_ | refine sc_bh ?_ | refine sc_ih ?_) | refine callW0 (l6In_s _ _ _) rfl trivial ?_ | refine callW0 (l11Kind_s _) rfl trivial ?_ | refine callW0 (sShareOk_s p.list (by omega)) rfl trivial ?_ | refine callW0 (sProofLen_s _) rfl trivial ?_ | with_reducible refine Br.dec (fun _ => ?_) (fun _ => ?_) | with_reducible refine Br.decn (fun _ => ?_) (fun _ => ?_) | with_reducible refine d_left [] ?_ ?_ | exact rfl | exact Nat.le_of_ble_eq_true rfl | (refine Nat.le_of_eq ?_; simp [rows, seqI]; done) | refine call_go rfl rfl [] ?_ | (refine Hid.mk ?_; first | decide | omega | (simp <;> omega) | (intro e; subst e; omega) | (intro e; subst e; simp_all; done) | exact Prod.ext (by omega) (by omega))) <;> conv => whnf)
  · rename_i g1 g2 g3 g4
    rw [la]
    exact ⟨⟨fun g => ⟨g1, g2, g3, g, g4.2⟩, fun g => g.2.2.2.1⟩⟩
  · rename_i g1 g2 g3 g4
    have := plen_le p.kind
    exact ⟨fun g => g4 ⟨by have := g.2.2.2.1; omega, g.2.2.2.2⟩⟩
  · rename_i g1 g2 g3; exact ⟨fun g => g3 g.2.2.1⟩
  · rename_i g1 g2; exact ⟨fun g => g2 g.2.1⟩
  · rename_i g1; exact ⟨fun g => g1 g.1⟩
def fsum (x y : Int) : Int := if okE x ∧ okE y then (x + y) % 31 else 0
theorem rows_grow {l : List Int} {i : Nat} {v : Int} (h : i < l.length) (hv : l[i] = v) : (rows ci (l.take i)).take i ++ [ci v] = rows ci (l.take (i + 1)) := by
  subst hv
  rw [List.take_of_length_le (by simp [rows]; omega), List.take_succ_eq_append_getElem h]
  simp only [rows, List.map_append, List.map_cons, List.map_nil]
theorem zipE_at {f : Int → Int → Int} {xs ys : List Int} (h : xs.length = ys.length) {k : Nat} (hk : k < (zipE f xs ys).length) : (zipE f xs ys)[k] = f (xs[k]'(by rw [zipE_len h] at hk; exact hk)) (ys[k]'(by rw [zipE_len h] at hk; omega)) := by
  simp [zipE]
theorem l3Sum_s (a b : List Int) (hl : a.length = b.length) (h1 : a.length ≤ 1100000) : Spec ctx 119 [sl a none, sl b none] [] (.own 0 1 0 a.length none) [(0, some (.row 1 (rows ci (zipE fsum a b))))] := by
  have la := rows_len ci a
  have lb := rows_len ci b
  have lz := zipE_len (f := fsum) hl
  have ll := fun i => rows_len ci ((zipE fsum a b).take i)
  refine spec_mk ctx_mixed ctx_enters 4 Tryz.func119 rfl rfl (Nat.le_of_ble_eq_true rfl) 0 rfl ?_; conv => whnf
  repeat' ((first | (with_reducible first | refine d_chk ?_ | refine Br.tt ?_ | refine Br.ff ?_ | refine Br.beq ?_ | refine Br.bne ?_ | refine Br.nt ?_ | refine Br.nf ?_ | refine d_wrap ?_ | refine d_rem ?_ | refine d_nat ?_ | refine d_get (by omega) ?_ | refine Br.yesd ?_ | refine Br.nod ?_ | refine Br.yesn ?_ | refine Br.nodn ?_ | refine d_le ?_ | refine d_lt ?_ | refine And.intro ?_ ?_ | exact trivial | exact .inr rfl | rfl | refine sc_int | refine sc_bt ?_ | refine sc_bf ?_ | refine sc_bb ?_ | refine sc_bh ?_ | refine sc_ih ?_) | with_reducible refine Br.dec (fun _ => ?_) (fun _ => ?_) | with_reducible refine Br.decn (fun _ => ?_) (fun _ => ?_) | with_reducible refine d_left [] ?_ ?_ | exact rfl | exact Nat.le_of_ble_eq_true rfl | (refine Nat.le_of_eq ?_; simp [rows, seqI]; done) | refine call_go rfl rfl [] ?_ | (refine Hid.mk ?_; first | decide | omega | (simp <;> omega) | (intro e; subst e; omega) | (intro e; subst e; simp_all; done) | exact Prod.ext (by omega) (by omega))) <;> conv => whnf)
  all_goals (try exact Or.inl rfl)
  refine AW.loopP (fun i : Nat => ⟨[(0, sl a none), (1, sl b none), (5, .own 0 1 0 i none), (6, iv .i64 i)], [(0, some (.row 1 (rows ci ((zipE fsum a b).take i))))], 1⟩) (fun i => i ≤ a.length) (fun i => a.length - i) 0 [(0, 0)] (d_sub _ ?_ ?_) (by omega) (fun i hi => ?_) <;> (conv => whnf) <;>
  repeat' ((first | (with_reducible first | refine d_chk ?_ | refine Br.tt ?_ | refine Br.ff ?_ | refine Br.beq ?_ | refine Br.bne ?_ | refine Br.nt ?_ | refine Br.nf ?_ | refine d_wrap ?_ | refine d_rem ?_ | refine d_nat ?_ | refine d_get (by omega) ?_ | refine Br.yesd ?_ | refine Br.nod ?_ | refine Br.yesn ?_ | refine Br.nodn ?_ | refine d_le ?_ | refine d_lt ?_ | refine And.intro ?_ ?_ | exact trivial | exact .inr rfl | rfl | refine sc_int | refine sc_bt ?_ | refine sc_bf ?_ | refine sc_bb ?_ | refine sc_bh ?_ | refine sc_ih ?_) | refine callW0 (sFieldSum_s _ _) rfl trivial ?_ | refine d_end (i+1) [(0, 2)] (d_sub _ ?_ ?_) ?_ | with_reducible refine d_left [(0, 0)] ?_ ?_ | (show (2 * (i + 1) + 768) * 8 ≤ 281474976710656; omega) | (show i ≤ (rows ci ((zipE fsum a b).take i)).length; rw [ll, List.length_take]; omega) | with_reducible refine Br.dec (fun _ => ?_) (fun _ => ?_) | with_reducible refine Br.decn (fun _ => ?_) (fun _ => ?_) | with_reducible refine d_left [] ?_ ?_ | exact rfl | exact Nat.le_of_ble_eq_true rfl | (refine Nat.le_of_eq ?_; simp [rows, seqI]; done) | refine call_go rfl rfl [] ?_ | (refine Hid.mk ?_; first | decide | omega | (simp <;> omega) | (intro e; subst e; omega) | (intro e; subst e; simp_all; done) | exact Prod.ext (by omega) (by omega))) <;> conv => whnf)
  · exact Or.inl rfl
  · exact rows_grow (by omega) (zipE_at hl (by omega))
  · omega
  · rw [List.take_of_length_le (by omega)]
abbrev cownA (side kind : Int) (n m : Nat) : AV := .agg [iv .i64 side, iv .i64 kind, .own 0 1 0 n none, .own 1 1 0 m none]
abbrev cownH (xs ys : List Int) : List (Nat × Option Block) := [(0, some (.row 1 (rows ci xs))), (1, some (.row 1 (rows ci ys)))]
theorem l22Copy_s (c : Co) (h1 : c.sum.length ≤ 1100000) (h2 : c.ids.length ≤ 1100000) : Spec ctx 118 [.agg (coL c)] [] (cownA c.side c.kind c.sum.length c.ids.length) (cownH c.sum c.ids) := by
  have la := rows_len ci c.sum
  have lb := rows_len ci c.ids
  refine spec_mk ctx_mixed ctx_enters 9 Tryz.func118 rfl rfl (Nat.le_of_ble_eq_true rfl) 0 rfl ?_; conv => whnf
  repeat' ((first | (with_reducible first | refine d_chk ?_ | refine Br.tt ?_ | refine Br.ff ?_ | refine Br.beq ?_ | refine Br.bne ?_ | refine Br.nt ?_ | refine Br.nf ?_ | refine d_wrap ?_ | refine d_rem ?_ | refine d_nat ?_ | refine d_get (by omega) ?_ | refine Br.yesd ?_ | refine Br.nod ?_ | refine Br.yesn ?_ | refine Br.nodn ?_ | refine d_le ?_ | refine d_lt ?_ | refine And.intro ?_ ?_ | exact trivial | exact .inr rfl | rfl | refine sc_int | refine sc_bt ?_ | refine sc_bf ?_ | refine sc_bb ?_ | refine sc_bh ?_ | refine sc_ih ?_) | with_reducible refine d_left [(0, 3), (1, 5)] ?_ ?_ | (show (2 * (0 + (rows ci c.sum).length) + 768) * 8 ≤ 281474976710656; omega) | (show (2 * (0 + (rows ci c.ids).length) + 768) * 8 ≤ 281474976710656; omega) | omega | with_reducible refine Br.dec (fun _ => ?_) (fun _ => ?_) | with_reducible refine Br.decn (fun _ => ?_) (fun _ => ?_) | with_reducible refine d_left [] ?_ ?_ | exact rfl | exact Nat.le_of_ble_eq_true rfl | (refine Nat.le_of_eq ?_; simp [rows, seqI]; done) | refine call_go rfl rfl [] ?_ | (refine Hid.mk ?_; first | decide | omega | (simp <;> omega) | (intro e; subst e; omega) | (intro e; subst e; simp_all; done) | exact Prod.ext (by omega) (by omega))) <;> conv => whnf)
/-- what is counted -/
def TakeOk (c : Co) (p : Prt) : Prop := p.side = c.side ∧ p.kind = c.kind ∧ p.id ∉ c.ids ∧ (c.ids.length : Int) < 9
instance (c : Co) (p : Prt) : Decidable (TakeOk c p) := by unfold TakeOk; infer_instance
def ctake (c : Co) (p : Prt) : Co := if TakeOk c p then { c with sum := zipE fsum c.sum (p.list.take c.sum.length), ids := c.ids ++ [p.id] } else c
end Go.Proofs.YtdjoodbidcncaaaGreatDoor.AW

/- The reference's field and polynomials: what they come to. -/
namespace Go.Proofs.YtdjoodbidcncaaaGreatDoor.AW
open Go
set_option maxRecDepth 10000
abbrev allE (l : List Int) : Prop := ∀ x ∈ l, okE x
theorem allE_get {l : List Int} (h : allE l) {i : Nat} (hi : i < l.length) : okE l[i] := h _ (List.getElem_mem hi)
theorem mulb {a b : Int} (ha : okE a) (hb : okE b) : 0 ≤ a * b ∧ a * b ≤ 900 :=
  ⟨Int.mul_nonneg ha.1 hb.1, by have := Int.mul_le_mul ha.2 hb.2 hb.1 (by omega : (0 : Int) ≤ 30); omega⟩
theorem d_mod {x y : Int} {K : Int → Prop} (k : K (x % y)) (hx : 0 ≤ x := by omega) : ∃ z, Int.tmod x y = z ∧ K z := ⟨_, Int.tmod_eq_emod_of_nonneg hx, k⟩
theorem d_div {x y : Int} {K : Int → Prop} (k : K (x / y)) (hx : 0 ≤ x := by omega) (hb : -9223372036854775808 ≤ x / y ∧ x / y ≤ 9223372036854775807 := by omega) : ∃ z, IntKind.i64.wrap (x.tdiv y) = z ∧ K z := ⟨_, by rw [Int.tdiv_eq_ediv_of_nonneg hx]; exact wrap_i64 hb.1 hb.2, k⟩
theorem d_addE {x y : Int} {K : Int → Prop} (hy : okE y) (k : okE y → K (x + y)) (hx : 0 ≤ x ∧ x ≤ 1000000 := by omega) : ∃ z, IntKind.i64.wrap (x + y) = z ∧ K z := ⟨_, wrap_i64 (by omega) (by omega), k hy⟩
theorem d_addL {x y : Int} {K : Int → Prop} (hx : okE x) (k : okE x → K (x + y)) (hy : 0 ≤ y ∧ y ≤ 1000000 := by omega) : ∃ z, IntKind.i64.wrap (x + y) = z ∧ K z := ⟨_, wrap_i64 (by omega) (by omega), k hx⟩
theorem d_mulE {x y : Int} {K : Int → Prop} (hx : okE x) (hy : okE y) (k : (0 ≤ x * y ∧ x * y ≤ 900) → K (x * y)) : ∃ z, IntKind.i64.wrap (x * y) = z ∧ K z := ⟨_, wrap_i64 (by have := mulb hx hy; omega) (by have := mulb hx hy; omega), k (mulb hx hy)⟩
def fdif (x y : Int) : Int := if okE x ∧ okE y then (x + 31 - y) % 31 else 0
def fmul (x y : Int) : Int := if okE x ∧ okE y then x * y % 31 else 0
theorem fdif_ok (x y : Int) : okE (fdif x y) := by unfold fdif; split <;> omega
theorem fmul_ok (x y : Int) : okE (fmul x y) := by unfold fmul; split <;> omega
theorem fsum_ok (x y : Int) : okE (fsum x y) := by unfold fsum; split <;> omega
theorem sFieldDif_s (a b : Int) : Spec ctx 204 [iv .i64 a, iv .i64 b] [] (iv .i64 (fdif a b)) [] := by
  by_cases h : okE a ∧ okE b
  · have e : fdif a b = (a + 31 - b) % 31 := if_pos h
    rw [e]
    refine spec_mk ctx_mixed ctx_enters 0 Tryz.func204 rfl rfl (Nat.le_of_ble_eq_true rfl) 0 rfl ?_; conv => whnf
    repeat' ((first | (with_reducible first | refine d_chk ?_ | refine Br.tt ?_ | refine Br.ff ?_ | refine Br.beq ?_ | refine Br.bne ?_ | refine Br.nt ?_ | refine Br.nf ?_ | refine d_wrap ?_ | refine d_rem ?_ | refine d_nat ?_ | refine d_get (by omega) ?_ | refine Br.yesd ?_ | refine Br.nod ?_ | refine Br.yesn ?_ | refine Br.nodn ?_ | refine d_le ?_ | refine d_lt ?_ | refine And.intro ?_ ?_ | exact trivial | exact .inr rfl | rfl | refine sc_int | refine sc_bt ?_ | refine sc_bf ?_ | refine sc_bb ?_ | refine sc_bh ?_ | refine sc_ih ?_) | refine callW0 (sFieldOk_s _) rfl trivial ?_ | with_reducible refine d_mod ?_ | exact fun h => by cases h | with_reducible refine Br.dec (fun _ => ?_) (fun _ => ?_) | with_reducible refine Br.decn (fun _ => ?_) (fun _ => ?_) | with_reducible refine d_left [] ?_ ?_ | exact rfl | exact Nat.le_of_ble_eq_true rfl | (refine Nat.le_of_eq ?_; simp [rows, seqI]; done) | refine call_go rfl rfl [] ?_ | (refine Hid.mk ?_; first | decide | omega | (simp <;> omega) | (intro e; subst e; omega) | (intro e; subst e; simp_all; done) | exact Prod.ext (by omega) (by omega))) <;> conv => whnf)
  · have e : fdif a b = 0 := if_neg h
    rw [e]
    refine spec_mk ctx_mixed ctx_enters 0 Tryz.func204 rfl rfl (Nat.le_of_ble_eq_true rfl) 0 rfl ?_; conv => whnf
    repeat' ((first | (with_reducible first | refine d_chk ?_ | refine Br.tt ?_ | refine Br.ff ?_ | refine Br.beq ?_ | refine Br.bne ?_ | refine Br.nt ?_ | refine Br.nf ?_ | refine d_wrap ?_ | refine d_rem ?_ | refine d_nat ?_ | refine d_get (by omega) ?_ | refine Br.yesd ?_ | refine Br.nod ?_ | refine Br.yesn ?_ | refine Br.nodn ?_ | refine d_le ?_ | refine d_lt ?_ | refine And.intro ?_ ?_ | exact trivial | exact .inr rfl | rfl | refine sc_int | refine sc_bt ?_ | refine sc_bf ?_ | refine sc_bb ?_ | refine sc_bh ?_ | refine sc_ih ?_) | refine callW0 (sFieldOk_s _) rfl trivial ?_ | exact absurd ⟨by assumption, by assumption⟩ h | with_reducible refine Br.dec (fun _ => ?_) (fun _ => ?_) | with_reducible refine Br.decn (fun _ => ?_) (fun _ => ?_) | with_reducible refine d_left [] ?_ ?_ | exact rfl | exact Nat.le_of_ble_eq_true rfl | (refine Nat.le_of_eq ?_; simp [rows, seqI]; done) | refine call_go rfl rfl [] ?_ | (refine Hid.mk ?_; first | decide | omega | (simp <;> omega) | (intro e; subst e; omega) | (intro e; subst e; simp_all; done) | exact Prod.ext (by omega) (by omega))) <;> conv => whnf)
theorem sFieldMul_s (a b : Int) : Spec ctx 205 [iv .i64 a, iv .i64 b] [] (iv .i64 (fmul a b)) [] := by
  by_cases h : okE a ∧ okE b
  · have e : fmul a b = a * b % 31 := if_pos h
    have hm := mulb h.1 h.2
    rw [e]
    refine spec_mk ctx_mixed ctx_enters 0 Tryz.func205 rfl rfl (Nat.le_of_ble_eq_true rfl) 0 rfl ?_; conv => whnf
    repeat' ((first | (with_reducible first | refine d_chk ?_ | refine Br.tt ?_ | refine Br.ff ?_ | refine Br.beq ?_ | refine Br.bne ?_ | refine Br.nt ?_ | refine Br.nf ?_ | refine d_wrap ?_ | refine d_rem ?_ | refine d_nat ?_ | refine d_get (by omega) ?_ | refine Br.yesd ?_ | refine Br.nod ?_ | refine Br.yesn ?_ | refine Br.nodn ?_ | refine d_le ?_ | refine d_lt ?_ | refine And.intro ?_ ?_ | exact trivial | exact .inr rfl | rfl | refine sc_int | refine sc_bt ?_ | refine sc_bf ?_ | refine sc_bb ?_ | refine sc_bh ?_ | refine sc_ih ?_) | refine callW0 (sFieldOk_s _) rfl trivial ?_ | with_reducible refine d_mod ?_ | exact fun h => by cases h | with_reducible refine Br.dec (fun _ => ?_) (fun _ => ?_) | with_reducible refine Br.decn (fun _ => ?_) (fun _ => ?_) | with_reducible refine d_left [] ?_ ?_ | exact rfl | exact Nat.le_of_ble_eq_true rfl | (refine Nat.le_of_eq ?_; simp [rows, seqI]; done) | refine call_go rfl rfl [] ?_ | (refine Hid.mk ?_; first | decide | omega | (simp <;> omega) | (intro e; subst e; omega) | (intro e; subst e; simp_all; done) | exact Prod.ext (by omega) (by omega))) <;> conv => whnf)
  · have e : fmul a b = 0 := if_neg h
    rw [e]
    refine spec_mk ctx_mixed ctx_enters 0 Tryz.func205 rfl rfl (Nat.le_of_ble_eq_true rfl) 0 rfl ?_; conv => whnf
    repeat' ((first | (with_reducible first | refine d_chk ?_ | refine Br.tt ?_ | refine Br.ff ?_ | refine Br.beq ?_ | refine Br.bne ?_ | refine Br.nt ?_ | refine Br.nf ?_ | refine d_wrap ?_ | refine d_rem ?_ | refine d_nat ?_ | refine d_get (by omega) ?_ | refine Br.yesd ?_ | refine Br.nod ?_ | refine Br.yesn ?_ | refine Br.nodn ?_ | refine d_le ?_ | refine d_lt ?_ | refine And.intro ?_ ?_ | exact trivial | exact .inr rfl | rfl | refine sc_int | refine sc_bt ?_ | refine sc_bf ?_ | refine sc_bb ?_ | refine sc_bh ?_ | refine sc_ih ?_) | refine callW0 (sFieldOk_s _) rfl trivial ?_ | exact absurd ⟨by assumption, by assumption⟩ h | with_reducible refine Br.dec (fun _ => ?_) (fun _ => ?_) | with_reducible refine Br.decn (fun _ => ?_) (fun _ => ?_) | with_reducible refine d_left [] ?_ ?_ | exact rfl | exact Nat.le_of_ble_eq_true rfl | (refine Nat.le_of_eq ?_; simp [rows, seqI]; done) | refine call_go rfl rfl [] ?_ | (refine Hid.mk ?_; first | decide | omega | (simp <;> omega) | (intro e; subst e; omega) | (intro e; subst e; simp_all; done) | exact Prod.ext (by omega) (by omega))) <;> conv => whnf)
/-! the inverse -/
def invN (a : Nat) : Nat := ((List.range 31).find? fun n => decide (1 ≤ n ∧ a * n % 31 = 1)).getD 0
def finv (a : Int) : Int := (invN a.toNat : Int)
theorem invN_tab : ∀ a : Fin 31, ∀ n : Fin 31, 1 ≤ n.val → a.val * n.val % 31 = 1 → invN a.val = n.val := by decide +kernel
theorem invN_lt : ∀ a : Fin 31, invN a.val < 31 := by decide +kernel
theorem finv_ok {a : Int} (h : okE a) : okE (finv a) := by
  have := invN_lt ⟨a.toNat, by omega⟩
  simp only at this
  unfold finv; omega
theorem finv_at {a : Int} (h : okE a) {i : Nat} (h1 : 1 ≤ i) (h2 : i < 31) (h3 : a * i % 31 = 1) : finv a = i := by
  obtain ⟨b, rfl⟩ := Int.eq_ofNat_of_zero_le h.1
  have e : b * i % 31 = 1 := by exact_mod_cast h3
  have := invN_tab ⟨b, by omega⟩ ⟨i, h2⟩ h1 e
  simp only at this
  unfold finv; simp [this]
theorem finv_no {a : Int} (h : okE a) (h3 : ∀ i : Nat, 1 ≤ i → i < 31 → ¬ a * i % 31 = 1) : finv a = 0 := by
  obtain ⟨b, rfl⟩ := Int.eq_ofNat_of_zero_le h.1
  unfold finv invN
  have : (List.range 31).find? (fun n => decide (1 ≤ n ∧ b * n % 31 = 1)) = none := by
    rw [List.find?_eq_none]
    intro n hn
    simp only [decide_eq_true_eq]
    rintro ⟨g1, g2⟩
    exact h3 n g1 (List.mem_range.1 hn) (by exact_mod_cast g2)
  rw [Int.toNat_natCast, this]; rfl
theorem mul30 {a : Int} (h : okE a) (i : Nat) (hi : i ≤ 31) : 0 ≤ a * i ∧ a * i ≤ 930 :=
  ⟨Int.mul_nonneg h.1 (by omega), by have := Int.mul_le_mul h.2 (show (i : Int) ≤ 31 by omega) (by omega) (by omega : (0 : Int) ≤ 30); omega⟩
theorem l1Inv_s (a : Int) (ha : okE a) : Spec ctx 203 [iv .i64 a] [] (iv .i64 (finv a)) [] := by
  refine spec_mk ctx_mixed ctx_enters 0 Tryz.func203 rfl rfl (Nat.le_of_ble_eq_true rfl) 0 rfl ?_; conv => whnf
  repeat' ((first | (with_reducible first | refine d_chk ?_ | refine Br.tt ?_ | refine Br.ff ?_ | refine Br.beq ?_ | refine Br.bne ?_ | refine Br.nt ?_ | refine Br.nf ?_ | refine d_wrap ?_ | refine d_rem ?_ | refine d_nat ?_ | refine d_get (by omega) ?_ | refine Br.yesd ?_ | refine Br.nod ?_ | refine Br.yesn ?_ | refine Br.nodn ?_ | refine d_le ?_ | refine d_lt ?_ | refine And.intro ?_ ?_ | exact trivial | exact .inr rfl | rfl | refine sc_int | refine sc_bt ?_ | refine sc_bf ?_ | refine sc_bb ?_ | refine sc_bh ?_ | refine sc_ih ?_) | with_reducible refine Br.dec (fun _ => ?_) (fun _ => ?_) | with_reducible refine Br.decn (fun _ => ?_) (fun _ => ?_) | with_reducible refine d_left [] ?_ ?_ | exact rfl | exact Nat.le_of_ble_eq_true rfl | (refine Nat.le_of_eq ?_; simp [rows, seqI]; done) | refine call_go rfl rfl [] ?_ | (refine Hid.mk ?_; first | decide | omega | (simp <;> omega) | (intro e; subst e; omega) | (intro e; subst e; simp_all; done) | exact Prod.ext (by omega) (by omega))) <;> conv => whnf)
  refine AW.loopP (fun i : Nat => ⟨[(0, iv .i64 a), (3, iv .i64 i)], [], 0⟩) (fun i => 1 ≤ i ∧ i ≤ 31 ∧ (0 ≤ a * i ∧ a * i ≤ 930) ∧ ∀ m : Nat, 1 ≤ m → m < i → ¬ a * m % 31 = 1) (fun i => 31 - i) 1 [] (d_sub _ ?_ ?_) ⟨by omega, by omega, mul30 ha 1 (by omega), by omega⟩ (fun i ⟨h1, h2, ⟨h3, h4⟩, h5⟩ => ?_) <;> (conv => whnf) <;>
  repeat' ((first | (with_reducible first | refine d_chk ?_ | refine Br.tt ?_ | refine Br.ff ?_ | refine Br.beq ?_ | refine Br.bne ?_ | refine Br.nt ?_ | refine Br.nf ?_ | refine d_wrap ?_ | refine d_rem ?_ | refine d_nat ?_ | refine d_get (by omega) ?_ | refine Br.yesd ?_ | refine Br.nod ?_ | refine Br.yesn ?_ | refine Br.nodn ?_ | refine d_le ?_ | refine d_lt ?_ | refine And.intro ?_ ?_ | exact trivial | exact .inr rfl | rfl | refine sc_int | refine sc_bt ?_ | refine sc_bf ?_ | refine sc_bb ?_ | refine sc_bh ?_ | refine sc_ih ?_) | refine d_end (i+1) [] (d_sub _ ?_ ?_) ?_ | with_reducible refine d_mod ?_ | exact fun h => by cases h | with_reducible refine Br.dec (fun _ => ?_) (fun _ => ?_) | with_reducible refine Br.decn (fun _ => ?_) (fun _ => ?_) | with_reducible refine d_left [] ?_ ?_ | exact rfl | exact Nat.le_of_ble_eq_true rfl | (refine Nat.le_of_eq ?_; simp [rows, seqI]; done) | refine call_go rfl rfl [] ?_ | (refine Hid.mk ?_; first | decide | omega | (simp <;> omega) | (intro e; subst e; omega) | (intro e; subst e; simp_all; done) | exact Prod.ext (by omega) (by omega))) <;> conv => whnf)
  · exact ⟨(finv_at ha h1 (by omega) (by assumption)).symm⟩
  · rename_i g
    refine ⟨by omega, by omega, mul30 ha (i + 1) (by omega), fun m q1 q2 => ?_⟩
    by_cases e : m = i
    · subst e; exact g
    · exact h5 m q1 (by omega)
  · have e : i = 31 := by omega
    subst e
    exact ⟨(finv_no ha h5).symm⟩
end Go.Proofs.YtdjoodbidcncaaaGreatDoor.AW

/- The reference's polynomials and lists: what they come to. -/
namespace Go.Proofs.YtdjoodbidcncaaaGreatDoor.AW
open Go
set_option maxRecDepth 10000
/-! a polynomial at a place -/
def l2at (p : List Int) (x : Int) : Int := p.foldr (fun c out => (out * x + c) % 31) 0
theorem l2at_ok (p : List Int) (x : Int) : okE (l2at p x) := by
  cases p with
  | nil => exact ⟨Int.le_refl _, (by decide : (0 : Int) ≤ 30)⟩
  | cons c p => simp only [l2at, List.foldr_cons]; omega
theorem l2at_drop {p : List Int} {x : Int} {i : Nat} (hi : i < p.length) : l2at (p.drop i) x = (l2at (p.drop (i + 1)) x * x + p[i]) % 31 := by
  rw [List.drop_eq_getElem_cons hi]; rfl
theorem l2At_s (p : List Int) (x : Int) (hp : allE p) (hx : okE x) (hl : p.length ≤ 1000) : Spec ctx 216 [sl p none, iv .i64 x] [] (iv .i64 (l2at p x)) [] := by
  have la := rows_len ci p
  refine spec_mk ctx_mixed ctx_enters 0 Tryz.func216 rfl rfl (Nat.le_of_ble_eq_true rfl) 0 rfl ?_; conv => whnf
  repeat' ((first | (with_reducible first | refine d_chk ?_ | refine Br.tt ?_ | refine Br.ff ?_ | refine Br.beq ?_ | refine Br.bne ?_ | refine Br.nt ?_ | refine Br.nf ?_ | refine d_wrap ?_ | refine d_rem ?_ | refine d_nat ?_ | refine d_get (by omega) ?_ | refine Br.yesd ?_ | refine Br.nod ?_ | refine Br.yesn ?_ | refine Br.nodn ?_ | refine d_le ?_ | refine d_lt ?_ | refine And.intro ?_ ?_ | exact trivial | exact .inr rfl | rfl | refine sc_int | refine sc_bt ?_ | refine sc_bf ?_ | refine sc_bb ?_ | refine sc_bh ?_ | refine sc_ih ?_) | with_reducible refine Br.dec (fun _ => ?_) (fun _ => ?_) | with_reducible refine Br.decn (fun _ => ?_) (fun _ => ?_) | with_reducible refine d_left [] ?_ ?_ | exact rfl | exact Nat.le_of_ble_eq_true rfl | (refine Nat.le_of_eq ?_; simp [rows, seqI]; done) | refine call_go rfl rfl [] ?_ | (refine Hid.mk ?_; first | decide | omega | (simp <;> omega) | (intro e; subst e; omega) | (intro e; subst e; simp_all; done) | exact Prod.ext (by omega) (by omega))) <;> conv => whnf)
  refine AW.loopP (fun i : Nat => ⟨[(0, sl p none), (1, iv .i64 x), (5, iv .i64 (l2at (p.drop i) x)), (6, iv .i64 ((i : Int) - 1))], [], 0⟩) (fun i => i ≤ p.length ∧ okE (l2at (p.drop i) x)) (fun i => i) p.length [] (d_sub _ ?_ ?_) ⟨by omega, l2at_ok _ _⟩ (fun i ⟨hi, ho⟩ => ?_) <;> (conv => whnf) <;>
  repeat' ((first | (with_reducible first | refine d_chk ?_ | refine Br.tt ?_ | refine Br.ff ?_ | refine Br.beq ?_ | refine Br.bne ?_ | refine Br.nt ?_ | refine Br.nf ?_ | refine d_wrap ?_ | refine d_rem ?_ | refine d_nat ?_ | refine d_get (by omega) ?_ | refine Br.yesd ?_ | refine Br.nod ?_ | refine Br.yesn ?_ | refine Br.nodn ?_ | refine d_le ?_ | refine d_lt ?_ | refine And.intro ?_ ?_ | exact trivial | exact .inr rfl | rfl | refine sc_int | refine sc_bt ?_ | refine sc_bf ?_ | refine sc_bb ?_ | refine sc_bh ?_ | refine sc_ih ?_) | (refine d_addE (by first | assumption | exact allE_get (by assumption) _) (fun _ => ?_)) | refine d_nati ?_ | (refine d_mulE (by first | assumption | exact allE_get (by assumption) _) (by first | assumption | exact allE_get (by assumption) _) (fun _ => ?_)) | refine d_end (i-1) [] (d_sub _ ?_ ?_) ?_ | with_reducible refine d_mod ?_ | exact fun h => by cases h | with_reducible refine Br.dec (fun _ => ?_) (fun _ => ?_) | with_reducible refine Br.decn (fun _ => ?_) (fun _ => ?_) | with_reducible refine d_left [] ?_ ?_ | exact rfl | exact Nat.le_of_ble_eq_true rfl | (refine Nat.le_of_eq ?_; simp [rows, seqI]; done) | refine call_go rfl rfl [] ?_ | (refine Hid.mk ?_; first | decide | omega | (simp <;> omega) | (intro e; subst e; omega) | (intro e; subst e; simp_all; done) | exact Prod.ext (by omega) (by omega))) <;> conv => whnf)
  · simp only [List.drop_length]; exact ⟨rfl⟩
  · obtain ⟨j, rfl⟩ : ∃ j, i = j + 1 := ⟨i - 1, by omega⟩
    have e : ((j + 1 : Nat) : Int) - 1 = (j : Nat) := by omega
    simp only [e, Int.toNat_natCast, Nat.add_sub_cancel]
    exact ⟨(l2at_drop (by omega)).symm⟩
  · exact ⟨by omega, l2at_ok _ _⟩
  · have e : i = 0 := by omega
    subst e
    exact ⟨by simp⟩
/-! sums of products -/
def l13dot (a b : List Int) : Nat → Int
  | 0 => 0
  | i + 1 => (l13dot a b i + a.getD i 0 * b.getD i 0) % 31
theorem l13dot_ok (a b : List Int) : ∀ i, okE (l13dot a b i)
  | 0 => ⟨Int.le_refl _, by simp only [l13dot]; decide⟩
  | i + 1 => by simp only [l13dot]; omega
theorem getD_get {l : List Int} {i : Nat} (hi : i < l.length) : l.getD i 0 = l[i] := by simp [List.getD, hi]
theorem l13Dot_s (a b : List Int) (ha : allE a) (hb : allE b) (hl : a.length ≤ b.length) (h1 : a.length ≤ 1000) : Spec ctx 217 [sl a none, sl b none] [] (iv .i64 (l13dot a b a.length)) [] := by
  have la := rows_len ci a
  have lb := rows_len ci b
  refine spec_mk ctx_mixed ctx_enters 0 Tryz.func217 rfl rfl (Nat.le_of_ble_eq_true rfl) 0 rfl ?_; conv => whnf
  repeat' ((first | (with_reducible first | refine d_chk ?_ | refine Br.tt ?_ | refine Br.ff ?_ | refine Br.beq ?_ | refine Br.bne ?_ | refine Br.nt ?_ | refine Br.nf ?_ | refine d_wrap ?_ | refine d_rem ?_ | refine d_nat ?_ | refine d_get (by omega) ?_ | refine Br.yesd ?_ | refine Br.nod ?_ | refine Br.yesn ?_ | refine Br.nodn ?_ | refine d_le ?_ | refine d_lt ?_ | refine And.intro ?_ ?_ | exact trivial | exact .inr rfl | rfl | refine sc_int | refine sc_bt ?_ | refine sc_bf ?_ | refine sc_bb ?_ | refine sc_bh ?_ | refine sc_ih ?_) | with_reducible refine Br.dec (fun _ => ?_) (fun _ => ?_) | with_reducible refine Br.decn (fun _ => ?_) (fun _ => ?_) | with_reducible refine d_left [] ?_ ?_ | exact rfl | exact Nat.le_of_ble_eq_true rfl | (refine Nat.le_of_eq ?_; simp [rows, seqI]; done) | refine call_go rfl rfl [] ?_ | (refine Hid.mk ?_; first | decide | omega | (simp <;> omega) | (intro e; subst e; omega) | (intro e; subst e; simp_all; done) | exact Prod.ext (by omega) (by omega))) <;> conv => whnf)
  refine AW.loopP (fun i : Nat => ⟨[(0, sl a none), (1, sl b none), (5, iv .i64 (l13dot a b i)), (6, iv .i64 i)], [], 0⟩) (fun i => i ≤ a.length ∧ okE (l13dot a b i)) (fun i => a.length - i) 0 [] (d_sub _ ?_ ?_) ⟨by omega, l13dot_ok _ _ _⟩ (fun i ⟨hi, hm⟩ => ?_) <;> (conv => whnf) <;>
  repeat' ((first | (with_reducible first | refine d_chk ?_ | refine Br.tt ?_ | refine Br.ff ?_ | refine Br.beq ?_ | refine Br.bne ?_ | refine Br.nt ?_ | refine Br.nf ?_ | refine d_wrap ?_ | refine d_rem ?_ | refine d_nat ?_ | refine d_get (by omega) ?_ | refine Br.yesd ?_ | refine Br.nod ?_ | refine Br.yesn ?_ | refine Br.nodn ?_ | refine d_le ?_ | refine d_lt ?_ | refine And.intro ?_ ?_ | exact trivial | exact .inr rfl | rfl | refine sc_int | refine sc_bt ?_ | refine sc_bf ?_ | refine sc_bb ?_ | refine sc_bh ?_ | refine sc_ih ?_) | (refine d_mulE (by first | assumption | exact allE_get (by assumption) _) (by first | assumption | exact allE_get (by assumption) _) (fun _ => ?_)) | refine d_end (i+1) [] (d_sub _ ?_ ?_) ?_ | with_reducible refine d_mod ?_ | exact fun h => by cases h | with_reducible refine Br.dec (fun _ => ?_) (fun _ => ?_) | with_reducible refine Br.decn (fun _ => ?_) (fun _ => ?_) | with_reducible refine d_left [] ?_ ?_ | exact rfl | exact Nat.le_of_ble_eq_true rfl | (refine Nat.le_of_eq ?_; simp [rows, seqI]; done) | refine call_go rfl rfl [] ?_ | (refine Hid.mk ?_; first | decide | omega | (simp <;> omega) | (intro e; subst e; omega) | (intro e; subst e; simp_all; done) | exact Prod.ext (by omega) (by omega))) <;> conv => whnf)
  · exact ⟨rfl⟩
  · exact ⟨by rw [l13dot, getD_get (by omega), getD_get (by omega)]⟩
  · exact ⟨by omega, l13dot_ok _ _ _⟩
  · have e : i = a.length := by omega
    subst e
    exact ⟨rfl⟩
/-! a line of values -/
def l4at (seed at_ : Int) : Int := (seed + seed / 31 * 7 + at_ * at_ * 11 + at_ * (seed % 31) * 26 + at_ * 3) % 31
theorem l4at_ok (seed at_ : Int) : okE (l4at seed at_) := by unfold l4at; omega
theorem l4At_s (seed at_ : Int) (h1 : 0 ≤ seed ∧ seed ≤ 999) (h2 : 0 ≤ at_ ∧ at_ ≤ 100) : Spec ctx 113 [iv .i64 seed, iv .i64 at_] [] (iv .i64 (l4at seed at_)) [] := by
  have m1 : 0 ≤ at_ * at_ ∧ at_ * at_ ≤ 10000 := ⟨Int.mul_nonneg h2.1 h2.1, by have := Int.mul_le_mul h2.2 h2.2 h2.1 (by omega : (0 : Int) ≤ 100); omega⟩
  have m2 : 0 ≤ at_ * (seed % 31) ∧ at_ * (seed % 31) ≤ 3000 := ⟨Int.mul_nonneg h2.1 (by omega), by have := Int.mul_le_mul h2.2 (show seed % 31 ≤ 30 by omega) (by omega) (by omega : (0 : Int) ≤ 100); omega⟩
  refine spec_mk ctx_mixed ctx_enters 0 Tryz.func113 rfl rfl (Nat.le_of_ble_eq_true rfl) 0 rfl ?_; conv => whnf
  repeat' ((first | (with_reducible first | refine d_chk ?_ | refine Br.tt ?_ | refine Br.ff ?_ | refine Br.beq ?_ | refine Br.bne ?_ | refine Br.nt ?_ | refine Br.nf ?_ | refine d_wrap ?_ | refine d_rem ?_ | refine d_nat ?_ | refine d_get (by omega) ?_ | refine Br.yesd ?_ | refine Br.nod ?_ | refine Br.yesn ?_ | refine Br.nodn ?_ | refine d_le ?_ | refine d_lt ?_ | refine And.intro ?_ ?_ | exact trivial | exact .inr rfl | rfl | refine sc_int | refine sc_bt ?_ | refine sc_bf ?_ | refine sc_bb ?_ | refine sc_bh ?_ | refine sc_ih ?_) | with_reducible refine d_mod ?_ | exact fun h => by cases h | with_reducible refine d_div ?_ | with_reducible refine Br.dec (fun _ => ?_) (fun _ => ?_) | with_reducible refine Br.decn (fun _ => ?_) (fun _ => ?_) | with_reducible refine d_left [] ?_ ?_ | exact rfl | exact Nat.le_of_ble_eq_true rfl | (refine Nat.le_of_eq ?_; simp [rows, seqI]; done) | refine call_go rfl rfl [] ?_ | (refine Hid.mk ?_; first | decide | omega | (simp <;> omega) | (intro e; subst e; omega) | (intro e; subst e; simp_all; done) | exact Prod.ext (by omega) (by omega))) <;> conv => whnf)
  exact ⟨rfl⟩
def l4vec (seed : Int) (n : Nat) : List Int := (List.range n).map fun i : Nat => l4at seed i
theorem l4vec_len (seed : Int) (n : Nat) : (l4vec seed n).length = n := by simp [l4vec]
theorem l4vec_ok (seed : Int) (n : Nat) : allE (l4vec seed n) := fun x hx => by
  simp only [l4vec, List.mem_map] at hx
  obtain ⟨_, _, rfl⟩ := hx
  exact l4at_ok _ _
theorem l4vec_more (seed : Int) (n : Nat) : l4vec seed (n + 1) = l4vec seed n ++ [l4at seed n] := by simp [l4vec, List.range_succ]
/-- a list that grows by one -/
theorem rows_push (l : List Int) (n : Nat) (v : Int) (h : l.length = n) : (rows ci l).take n ++ [ci v] = rows ci (l ++ [v]) := by
  rw [List.take_of_length_le (by simp [rows, h])]; simp only [rows, List.map_append, List.map_cons, List.map_nil]
theorem l4Vec_s (seed : Int) (n : Nat) (h1 : 0 ≤ seed ∧ seed ≤ 999) (h2 : n ≤ 100) : Spec ctx 116 [iv .i64 seed, iv .i64 n] [] (.own 0 1 0 n none) [(0, some (.row 1 (rows ci (l4vec seed n))))] := by
  refine spec_mk ctx_mixed ctx_enters 4 Tryz.func116 rfl rfl (Nat.le_of_ble_eq_true rfl) 0 rfl ?_; conv => whnf
  repeat' ((first | (with_reducible first | refine d_chk ?_ | refine Br.tt ?_ | refine Br.ff ?_ | refine Br.beq ?_ | refine Br.bne ?_ | refine Br.nt ?_ | refine Br.nf ?_ | refine d_wrap ?_ | refine d_rem ?_ | refine d_nat ?_ | refine d_get (by omega) ?_ | refine Br.yesd ?_ | refine Br.nod ?_ | refine Br.yesn ?_ | refine Br.nodn ?_ | refine d_le ?_ | refine d_lt ?_ | refine And.intro ?_ ?_ | exact trivial | exact .inr rfl | rfl | refine sc_int | refine sc_bt ?_ | refine sc_bf ?_ | refine sc_bb ?_ | refine sc_bh ?_ | refine sc_ih ?_) | with_reducible refine Br.dec (fun _ => ?_) (fun _ => ?_) | with_reducible refine Br.decn (fun _ => ?_) (fun _ => ?_) | with_reducible refine d_left [] ?_ ?_ | exact rfl | exact Nat.le_of_ble_eq_true rfl | (refine Nat.le_of_eq ?_; simp [rows, seqI]; done) | refine call_go rfl rfl [] ?_ | (refine Hid.mk ?_; first | decide | omega | (simp <;> omega) | (intro e; subst e; omega) | (intro e; subst e; simp_all; done) | exact Prod.ext (by omega) (by omega))) <;> conv => whnf)
  all_goals (try exact Or.inl rfl)
  refine AW.loopP (fun i : Nat => ⟨[(0, iv .i64 seed), (1, iv .i64 n), (5, .own 0 1 0 i none), (6, iv .i64 i)], [(0, some (.row 1 (rows ci (l4vec seed i))))], 1⟩) (fun i => i ≤ n) (fun i => n - i) 0 [(0, 0)] (d_sub _ ?_ ?_) (by omega) (fun i hi => ?_) <;> (conv => whnf) <;>
  repeat' ((first | (with_reducible first | refine d_chk ?_ | refine Br.tt ?_ | refine Br.ff ?_ | refine Br.beq ?_ | refine Br.bne ?_ | refine Br.nt ?_ | refine Br.nf ?_ | refine d_wrap ?_ | refine d_rem ?_ | refine d_nat ?_ | refine d_get (by omega) ?_ | refine Br.yesd ?_ | refine Br.nod ?_ | refine Br.yesn ?_ | refine Br.nodn ?_ | refine d_le ?_ | refine d_lt ?_ | refine And.intro ?_ ?_ | exact trivial | exact .inr rfl | rfl | refine sc_int | refine sc_bt ?_ | refine sc_bf ?_ | refine sc_bb ?_ | refine sc_bh ?_ | refine sc_ih ?_) | refine callW0 (l4At_s seed i h1 (by omega)) rfl trivial ?_ | refine d_end (i+1) [(0, 2)] (d_sub _ ?_ ?_) ?_ | with_reducible refine d_left [(0, 0)] ?_ ?_ | (show (2 * (i + 1) + 768) * 8 ≤ 281474976710656; omega) | (show i ≤ (rows ci (l4vec seed i)).length; rw [rows_len, l4vec_len]; omega) | with_reducible refine Br.dec (fun _ => ?_) (fun _ => ?_) | with_reducible refine Br.decn (fun _ => ?_) (fun _ => ?_) | with_reducible refine d_left [] ?_ ?_ | exact rfl | exact Nat.le_of_ble_eq_true rfl | (refine Nat.le_of_eq ?_; simp [rows, seqI]; done) | refine call_go rfl rfl [] ?_ | (refine Hid.mk ?_; first | decide | omega | (simp <;> omega) | (intro e; subst e; omega) | (intro e; subst e; simp_all; done) | exact Prod.ext (by omega) (by omega))) <;> conv => whnf)
  · exact Or.inl rfl
  · exact (rows_push _ _ _ (l4vec_len _ _)).trans (by rw [← l4vec_more])
  · omega
  · rw [show i = n by omega]
theorem l12First_s (v : List Int) (u : Int) (hl : v.length ≤ 1000) : Spec ctx 158 [sl v none, iv .i64 u] [] (.own 0 1 0 (v.length + 1) none) [(0, some (.row 1 (rows ci (u :: v))))] := by
  have la := rows_len ci v
  refine spec_mk ctx_mixed ctx_enters 4 Tryz.func158 rfl rfl (Nat.le_of_ble_eq_true rfl) 0 rfl ?_; conv => whnf
  repeat' ((first | (with_reducible first | refine d_chk ?_ | refine Br.tt ?_ | refine Br.ff ?_ | refine Br.beq ?_ | refine Br.bne ?_ | refine Br.nt ?_ | refine Br.nf ?_ | refine d_wrap ?_ | refine d_rem ?_ | refine d_nat ?_ | refine d_get (by omega) ?_ | refine Br.yesd ?_ | refine Br.nod ?_ | refine Br.yesn ?_ | refine Br.nodn ?_ | refine d_le ?_ | refine d_lt ?_ | refine And.intro ?_ ?_ | exact trivial | exact .inr rfl | rfl | refine sc_int | refine sc_bt ?_ | refine sc_bf ?_ | refine sc_bb ?_ | refine sc_bh ?_ | refine sc_ih ?_) | with_reducible refine d_left [(0, 1)] ?_ ?_ | (show (2 * (1 + (rows ci v).length) + 768) * 8 ≤ 281474976710656; omega) | with_reducible refine Br.dec (fun _ => ?_) (fun _ => ?_) | with_reducible refine Br.decn (fun _ => ?_) (fun _ => ?_) | with_reducible refine d_left [] ?_ ?_ | exact rfl | exact Nat.le_of_ble_eq_true rfl | (refine Nat.le_of_eq ?_; simp [rows, seqI]; done) | refine call_go rfl rfl [] ?_ | (refine Hid.mk ?_; first | decide | omega | (simp <;> omega) | (intro e; subst e; omega) | (intro e; subst e; simp_all; done) | exact Prod.ext (by omega) (by omega))) <;> conv => whnf)
  · rw [la]; omega
def l12sec (v : List Int) (w : Int) : Nat → List Int
  | 0 => [w]
  | i + 1 => l12sec v w i ++ [fdif (v.getD i 0) 1]
theorem l12sec_len (v : List Int) (w : Int) : ∀ i, (l12sec v w i).length = i + 1
  | 0 => rfl
  | i + 1 => by simp [l12sec, l12sec_len v w i]
theorem l12Second_s (v : List Int) (w : Int) (hl : v.length ≤ 1000) : Spec ctx 159 [sl v none, iv .i64 w] [] (.own 0 1 0 (v.length + 1) none) [(0, some (.row 1 (rows ci (l12sec v w v.length))))] := by
  have la := rows_len ci v
  refine spec_mk ctx_mixed ctx_enters 4 Tryz.func159 rfl rfl (Nat.le_of_ble_eq_true rfl) 0 rfl ?_; conv => whnf
  repeat' ((first | (with_reducible first | refine d_chk ?_ | refine Br.tt ?_ | refine Br.ff ?_ | refine Br.beq ?_ | refine Br.bne ?_ | refine Br.nt ?_ | refine Br.nf ?_ | refine d_wrap ?_ | refine d_rem ?_ | refine d_nat ?_ | refine d_get (by omega) ?_ | refine Br.yesd ?_ | refine Br.nod ?_ | refine Br.yesn ?_ | refine Br.nodn ?_ | refine d_le ?_ | refine d_lt ?_ | refine And.intro ?_ ?_ | exact trivial | exact .inr rfl | rfl | refine sc_int | refine sc_bt ?_ | refine sc_bf ?_ | refine sc_bb ?_ | refine sc_bh ?_ | refine sc_ih ?_) | with_reducible refine Br.dec (fun _ => ?_) (fun _ => ?_) | with_reducible refine Br.decn (fun _ => ?_) (fun _ => ?_) | with_reducible refine d_left [] ?_ ?_ | exact rfl | exact Nat.le_of_ble_eq_true rfl | (refine Nat.le_of_eq ?_; simp [rows, seqI]; done) | refine call_go rfl rfl [] ?_ | (refine Hid.mk ?_; first | decide | omega | (simp <;> omega) | (intro e; subst e; omega) | (intro e; subst e; simp_all; done) | exact Prod.ext (by omega) (by omega))) <;> conv => whnf)
  all_goals (try exact Or.inl rfl)
  refine AW.loopP (fun i : Nat => ⟨[(0, sl v none), (5, .own 0 1 0 (i + 1) none), (6, iv .i64 i)], [(0, some (.row 1 (rows ci (l12sec v w i))))], 1⟩) (fun i => i ≤ v.length) (fun i => v.length - i) 0 [(0, 0)] (d_sub _ ?_ ?_) (by omega) (fun i hi => ?_) <;> (conv => whnf) <;>
  repeat' ((first | (with_reducible first | refine d_chk ?_ | refine Br.tt ?_ | refine Br.ff ?_ | refine Br.beq ?_ | refine Br.bne ?_ | refine Br.nt ?_ | refine Br.nf ?_ | refine d_wrap ?_ | refine d_rem ?_ | refine d_nat ?_ | refine d_get (by omega) ?_ | refine Br.yesd ?_ | refine Br.nod ?_ | refine Br.yesn ?_ | refine Br.nodn ?_ | refine d_le ?_ | refine d_lt ?_ | refine And.intro ?_ ?_ | exact trivial | exact .inr rfl | rfl | refine sc_int | refine sc_bt ?_ | refine sc_bf ?_ | refine sc_bb ?_ | refine sc_bh ?_ | refine sc_ih ?_) | refine callW0 (sFieldDif_s _ _) rfl trivial ?_ | refine d_end (i+1) [(0, 2)] (d_sub _ ?_ ?_) ?_ | with_reducible refine d_left [(0, 0)] ?_ ?_ | (show (2 * (i + 1 + 1) + 768) * 8 ≤ 281474976710656; omega) | (show i + 1 ≤ (rows ci (l12sec v w i)).length; rw [rows_len, l12sec_len]; omega) | with_reducible refine Br.dec (fun _ => ?_) (fun _ => ?_) | with_reducible refine Br.decn (fun _ => ?_) (fun _ => ?_) | with_reducible refine d_left [] ?_ ?_ | exact rfl | exact Nat.le_of_ble_eq_true rfl | (refine Nat.le_of_eq ?_; simp [rows, seqI]; done) | refine call_go rfl rfl [] ?_ | (refine Hid.mk ?_; first | decide | omega | (simp <;> omega) | (intro e; subst e; omega) | (intro e; subst e; simp_all; done) | exact Prod.ext (by omega) (by omega))) <;> conv => whnf)
  · exact Or.inl rfl
  · exact (rows_push _ _ _ (l12sec_len _ _ _)).trans (by rw [l12sec, getD_get (by omega)])
  · omega
  · rw [show i = v.length by omega]
theorem l3Dif_s (a b : List Int) (hl : a.length = b.length) (h1 : a.length ≤ 1100000) : Spec ctx 206 [sl a none, sl b none] [] (.own 0 1 0 a.length none) [(0, some (.row 1 (rows ci (zipE fdif a b))))] := by
  have la := rows_len ci a
  have lb := rows_len ci b
  have lz := zipE_len (f := fdif) hl
  have ll := fun i => rows_len ci ((zipE fdif a b).take i)
  refine spec_mk ctx_mixed ctx_enters 4 Tryz.func206 rfl rfl (Nat.le_of_ble_eq_true rfl) 0 rfl ?_; conv => whnf
  repeat' ((first | (with_reducible first | refine d_chk ?_ | refine Br.tt ?_ | refine Br.ff ?_ | refine Br.beq ?_ | refine Br.bne ?_ | refine Br.nt ?_ | refine Br.nf ?_ | refine d_wrap ?_ | refine d_rem ?_ | refine d_nat ?_ | refine d_get (by omega) ?_ | refine Br.yesd ?_ | refine Br.nod ?_ | refine Br.yesn ?_ | refine Br.nodn ?_ | refine d_le ?_ | refine d_lt ?_ | refine And.intro ?_ ?_ | exact trivial | exact .inr rfl | rfl | refine sc_int | refine sc_bt ?_ | refine sc_bf ?_ | refine sc_bb ?_ | refine sc_bh ?_ | refine sc_ih ?_) | with_reducible refine Br.dec (fun _ => ?_) (fun _ => ?_) | with_reducible refine Br.decn (fun _ => ?_) (fun _ => ?_) | with_reducible refine d_left [] ?_ ?_ | exact rfl | exact Nat.le_of_ble_eq_true rfl | (refine Nat.le_of_eq ?_; simp [rows, seqI]; done) | refine call_go rfl rfl [] ?_ | (refine Hid.mk ?_; first | decide | omega | (simp <;> omega) | (intro e; subst e; omega) | (intro e; subst e; simp_all; done) | exact Prod.ext (by omega) (by omega))) <;> conv => whnf)
  all_goals (try exact Or.inl rfl)
  refine AW.loopP (fun i : Nat => ⟨[(0, sl a none), (1, sl b none), (5, .own 0 1 0 i none), (6, iv .i64 i)], [(0, some (.row 1 (rows ci ((zipE fdif a b).take i))))], 1⟩) (fun i => i ≤ a.length) (fun i => a.length - i) 0 [(0, 0)] (d_sub _ ?_ ?_) (by omega) (fun i hi => ?_) <;> (conv => whnf) <;>
  repeat' ((first | (with_reducible first | refine d_chk ?_ | refine Br.tt ?_ | refine Br.ff ?_ | refine Br.beq ?_ | refine Br.bne ?_ | refine Br.nt ?_ | refine Br.nf ?_ | refine d_wrap ?_ | refine d_rem ?_ | refine d_nat ?_ | refine d_get (by omega) ?_ | refine Br.yesd ?_ | refine Br.nod ?_ | refine Br.yesn ?_ | refine Br.nodn ?_ | refine d_le ?_ | refine d_lt ?_ | refine And.intro ?_ ?_ | exact trivial | exact .inr rfl | rfl | refine sc_int | refine sc_bt ?_ | refine sc_bf ?_ | refine sc_bb ?_ | refine sc_bh ?_ | refine sc_ih ?_) | refine callW0 (sFieldDif_s _ _) rfl trivial ?_ | refine d_end (i+1) [(0, 2)] (d_sub _ ?_ ?_) ?_ | with_reducible refine d_left [(0, 0)] ?_ ?_ | (show (2 * (i + 1) + 768) * 8 ≤ 281474976710656; omega) | (show i ≤ (rows ci ((zipE fdif a b).take i)).length; rw [ll, List.length_take]; omega) | with_reducible refine Br.dec (fun _ => ?_) (fun _ => ?_) | with_reducible refine Br.decn (fun _ => ?_) (fun _ => ?_) | with_reducible refine d_left [] ?_ ?_ | exact rfl | exact Nat.le_of_ble_eq_true rfl | (refine Nat.le_of_eq ?_; simp [rows, seqI]; done) | refine call_go rfl rfl [] ?_ | (refine Hid.mk ?_; first | decide | omega | (simp <;> omega) | (intro e; subst e; omega) | (intro e; subst e; simp_all; done) | exact Prod.ext (by omega) (by omega))) <;> conv => whnf)
  · exact Or.inl rfl
  · exact rows_grow (by omega) (zipE_at hl (by omega))
  · omega
  · rw [List.take_of_length_le (by omega)]
end Go.Proofs.YtdjoodbidcncaaaGreatDoor.AW

/- The reference's reader of bytes. -/
namespace Go.Proofs.YtdjoodbidcncaaaGreatDoor.AW
open Go
set_option maxRecDepth 10000
abbrev cb (x : Nat) : List CV := [.sc (.int .u8 x)]
abbrev sb (l : List Nat) : AV := .cv (.ro 1 (rows cb l) none)
abbrev rd (B : List Nat) (k : Nat) : Block := .box [sb B, iv .i64 k]
def Bytes (B : List Nat) : Prop := (∀ b ∈ B, b < 256) ∧ B.length ≤ 2000
theorem d_getB {l : List Nat} {j : Nat} {K : List CV → Prop} (hl : Bytes l) (h : j < l.length) (k : l[j] < 256 → K (cb l[j])) : ∃ x, (rows cb l)[j]? = some x ∧ K x := ⟨_, rows_get h, k (hl.1 _ (List.getElem_mem h))⟩
theorem rows_dt' (l : List Nat) (k : Nat) : List.drop 0 (List.take k (rows cb l)) = rows cb (l.take k) := by simp [rows, List.map_take]
theorem l6Open_s (B : List Nat) (hl : B.length ≤ 1100000) : Spec ctx 55 [sb B] [] (.ptr 0 2 0 0) [(0, some (rd (B.take 2000) 0))] := by
  have la := rows_len cb B
  by_cases h : B.length ≤ 2000
  · rw [List.take_of_length_le h]
    refine spec_mk ctx_mixed ctx_enters 3 Tryz.func55 rfl rfl (Nat.le_of_ble_eq_true rfl) 0 rfl ?_; conv => whnf
    repeat' ((first | (with_reducible first | refine d_chk ?_ | refine Br.tt ?_ | refine Br.ff ?_ | refine Br.beq ?_ | refine Br.bne ?_ | refine Br.nt ?_ | refine Br.nf ?_ | refine d_wrap ?_ | refine d_rem ?_ | refine d_nat ?_ | refine d_get (by omega) ?_ | refine Br.yesd ?_ | refine Br.nod ?_ | refine Br.yesn ?_ | refine Br.nodn ?_ | refine d_le ?_ | refine d_lt ?_ | refine And.intro ?_ ?_ | exact trivial | exact .inr rfl | rfl | refine sc_int | refine sc_bt ?_ | refine sc_bf ?_ | refine sc_bb ?_ | refine sc_bh ?_ | refine sc_ih ?_) | with_reducible refine d_left [(0, 0)] ?_ ?_ | refine ⟨2000, rfl, ?_⟩ | with_reducible refine Br.dec (fun _ => ?_) (fun _ => ?_) | with_reducible refine Br.decn (fun _ => ?_) (fun _ => ?_) | with_reducible refine d_left [] ?_ ?_ | exact rfl | exact Nat.le_of_ble_eq_true rfl | (refine Nat.le_of_eq ?_; simp [rows, seqI]; done) | refine call_go rfl rfl [] ?_ | (refine Hid.mk ?_; first | decide | omega | (simp <;> omega) | (intro e; subst e; omega) | (intro e; subst e; simp_all; done) | exact Prod.ext (by omega) (by omega))) <;> conv => whnf)
  · refine spec_mk ctx_mixed ctx_enters 3 Tryz.func55 rfl rfl (Nat.le_of_ble_eq_true rfl) 0 rfl ?_; conv => whnf
    repeat' ((first | (with_reducible first | refine d_chk ?_ | refine Br.tt ?_ | refine Br.ff ?_ | refine Br.beq ?_ | refine Br.bne ?_ | refine Br.nt ?_ | refine Br.nf ?_ | refine d_wrap ?_ | refine d_rem ?_ | refine d_nat ?_ | refine d_get (by omega) ?_ | refine Br.yesd ?_ | refine Br.nod ?_ | refine Br.yesn ?_ | refine Br.nodn ?_ | refine d_le ?_ | refine d_lt ?_ | refine And.intro ?_ ?_ | exact trivial | exact .inr rfl | rfl | refine sc_int | refine sc_bt ?_ | refine sc_bf ?_ | refine sc_bb ?_ | refine sc_bh ?_ | refine sc_ih ?_) | with_reducible refine d_left [(0, 0)] ?_ ?_ | refine ⟨2000, rfl, ?_⟩ | with_reducible refine Br.dec (fun _ => ?_) (fun _ => ?_) | with_reducible refine Br.decn (fun _ => ?_) (fun _ => ?_) | with_reducible refine d_left [] ?_ ?_ | exact rfl | exact Nat.le_of_ble_eq_true rfl | (refine Nat.le_of_eq ?_; simp [rows, seqI]; done) | refine call_go rfl rfl [] ?_ | (refine Hid.mk ?_; first | decide | omega | (simp <;> omega) | (intro e; subst e; omega) | (intro e; subst e; simp_all; done) | exact Prod.ext (by omega) (by omega))) <;> conv => whnf)
    · intro _; omega
    · exact rows_dt' _ _
theorem xor_in {a b : Int} (ha : 0 ≤ a) (ha2 : a < 1073741824) (hb : 0 ≤ b) (hb2 : b < 1073741824) : 0 ≤ Go.bits .xor .i64 a b := by
  obtain ⟨m, rfl⟩ := Int.eq_ofNat_of_zero_le ha
  obtain ⟨n, rfl⟩ := Int.eq_ofNat_of_zero_le hb
  have hx : m ^^^ n < 2 ^ 30 := Nat.xor_lt_two_pow (by omega) (by omega)
  show 0 ≤ IntKind.i64.wrap ((BitVec.ofInt 64 (m : Int) ^^^ BitVec.ofInt 64 (n : Int)).toNat : Int)
  have e : (BitVec.ofInt 64 (m : Int) ^^^ BitVec.ofInt 64 (n : Int)).toNat = m ^^^ n := by
    rw [BitVec.toNat_xor, BitVec.toNat_ofInt, BitVec.toNat_ofInt]
    have a1 : ((m : Int) % ((2 ^ 64 : Nat) : Int)).toNat = m := by omega
    have a2 : ((n : Int) % ((2 ^ 64 : Nat) : Int)).toNat = n := by omega
    rw [a1, a2]
  rw [e, wrap_i64 (by omega) (by omega)]
  omega
theorem d_xor {a b : Int} {K : Int → Prop} (k : K (Go.bits .xor .i64 a b)) : ∃ z, (∀ P w, (Op.intBits .xor .i64 a b).run P w = .ok (.int .i64 z) w) ∧ K z := ⟨_, fun P w => by simp [Op.intBits, go_sem]; rfl, k⟩
theorem pick_e (B : List Nat) (k : Nat) (n : Int) (hB : Bytes B) (hk : k ≤ 100000) : ∃ x : Int, (1 ≤ n → 0 ≤ x ∧ x < n) ∧ (n < 1 → x = 0) ∧ Spec ctx 56 [.ptr 0 2 0 0, iv .i64 n] [rd B k] (iv .i64 x) [(0, some (rd B (k + 1)))] := by
  have la := rows_len cb B
  have lB := hB.2
  by_cases h1 : n < 1
  · refine ⟨0, fun h => by omega, fun _ => rfl, ?_⟩
    refine spec_mk ctx_mixed ctx_enters 1 Tryz.func56 rfl rfl (Nat.le_of_ble_eq_true rfl) 1 rfl ?_; conv => whnf
    repeat' ((first | (with_reducible first | refine d_chk ?_ | refine Br.tt ?_ | refine Br.ff ?_ | refine Br.beq ?_ | refine Br.bne ?_ | refine Br.nt ?_ | refine Br.nf ?_ | refine d_wrap ?_ | refine d_rem ?_ | refine d_nat ?_ | refine d_get (by omega) ?_ | refine Br.yesd ?_ | refine Br.nod ?_ | refine Br.yesn ?_ | refine Br.nodn ?_ | refine d_le ?_ | refine d_lt ?_ | refine And.intro ?_ ?_ | exact trivial | exact .inr rfl | rfl | refine sc_int | refine sc_bt ?_ | refine sc_bf ?_ | refine sc_bb ?_ | refine sc_bh ?_ | refine sc_ih ?_) | with_reducible refine d_left [(0, 0)] ?_ ?_ | with_reducible refine Br.dec (fun _ => ?_) (fun _ => ?_) | with_reducible refine Br.decn (fun _ => ?_) (fun _ => ?_) | with_reducible refine d_left [] ?_ ?_ | exact rfl | exact Nat.le_of_ble_eq_true rfl | (refine Nat.le_of_eq ?_; simp [rows, seqI]; done) | refine call_go rfl rfl [] ?_ | (refine Hid.mk ?_; first | decide | omega | (simp <;> omega) | (intro e; subst e; omega) | (intro e; subst e; simp_all; done) | exact Prod.ext (by omega) (by omega))) <;> conv => whnf)
  by_cases h2 : B.length = 0
  · refine ⟨0, fun h => by omega, fun _ => rfl, ?_⟩
    refine spec_mk ctx_mixed ctx_enters 1 Tryz.func56 rfl rfl (Nat.le_of_ble_eq_true rfl) 1 rfl ?_; conv => whnf
    repeat' ((first | (with_reducible first | refine d_chk ?_ | refine Br.tt ?_ | refine Br.ff ?_ | refine Br.beq ?_ | refine Br.bne ?_ | refine Br.nt ?_ | refine Br.nf ?_ | refine d_wrap ?_ | refine d_rem ?_ | refine d_nat ?_ | refine d_get (by omega) ?_ | refine Br.yesd ?_ | refine Br.nod ?_ | refine Br.yesn ?_ | refine Br.nodn ?_ | refine d_le ?_ | refine d_lt ?_ | refine And.intro ?_ ?_ | exact trivial | exact .inr rfl | rfl | refine sc_int | refine sc_bt ?_ | refine sc_bf ?_ | refine sc_bb ?_ | refine sc_bh ?_ | refine sc_ih ?_) | with_reducible refine d_left [(0, 0)] ?_ ?_ | with_reducible refine Br.dec (fun _ => ?_) (fun _ => ?_) | with_reducible refine Br.decn (fun _ => ?_) (fun _ => ?_) | with_reducible refine d_left [] ?_ ?_ | exact rfl | exact Nat.le_of_ble_eq_true rfl | (refine Nat.le_of_eq ?_; simp [rows, seqI]; done) | refine call_go rfl rfl [] ?_ | (refine Hid.mk ?_; first | decide | omega | (simp <;> omega) | (intro e; subst e; omega) | (intro e; subst e; simp_all; done) | exact Prod.ext (by omega) (by omega))) <;> conv => whnf)
  by_cases h3 : k < B.length
  · have hb := hB.1 _ (List.getElem_mem h3)
    refine ⟨(B[k] : Int) % n, fun h => ⟨Int.emod_nonneg _ (by omega), Int.emod_lt_of_pos _ (by omega)⟩, fun h => by omega, ?_⟩
    refine spec_mk ctx_mixed ctx_enters 1 Tryz.func56 rfl rfl (Nat.le_of_ble_eq_true rfl) 1 rfl ?_; conv => whnf
    repeat' ((first | (with_reducible first | refine d_chk ?_ | refine Br.tt ?_ | refine Br.ff ?_ | refine Br.beq ?_ | refine Br.bne ?_ | refine Br.nt ?_ | refine Br.nf ?_ | refine d_wrap ?_ | refine d_rem ?_ | refine d_nat ?_ | refine d_get (by omega) ?_ | refine Br.yesd ?_ | refine Br.nod ?_ | refine Br.yesn ?_ | refine Br.nodn ?_ | refine d_le ?_ | refine d_lt ?_ | refine And.intro ?_ ?_ | exact trivial | exact .inr rfl | rfl | refine sc_int | refine sc_bt ?_ | refine sc_bf ?_ | refine sc_bb ?_ | refine sc_bh ?_ | refine sc_ih ?_) | (refine ⟨k, by omega, ?_⟩) | exact fun h => by omega | with_reducible refine d_mod ?_ | with_reducible refine d_left [(0, 0)] ?_ ?_ | with_reducible refine Br.dec (fun _ => ?_) (fun _ => ?_) | with_reducible refine Br.decn (fun _ => ?_) (fun _ => ?_) | with_reducible refine d_left [] ?_ ?_ | exact rfl | exact Nat.le_of_ble_eq_true rfl | (refine Nat.le_of_eq ?_; simp [rows, seqI]; done) | refine call_go rfl rfl [] ?_ | (refine Hid.mk ?_; first | decide | omega | (simp <;> omega) | (intro e; subst e; omega) | (intro e; subst e; simp_all; done) | exact Prod.ext (by omega) (by omega))) <;> conv => whnf)
  · obtain ⟨L, hL⟩ : ∃ L : Int, L = ((rows cb B).length : Int) := ⟨_, rfl⟩
    have L0 : 0 < L := by omega
    have j1 := Int.emod_nonneg ((k : Int) + 1 - 1) (show L ≠ 0 by omega)
    have j2 := Int.emod_lt_of_pos ((k : Int) + 1 - 1) L0
    have j3 := Int.emod_nonneg (((k : Int) + 1 - 1) * 7 + 3) (show L ≠ 0 by omega)
    have j4 := Int.emod_lt_of_pos (((k : Int) + 1 - 1) * 7 + 3) L0
    have j5 : 0 ≤ ((k : Int) + 1 - 1) / L := Int.ediv_nonneg (by omega) (by omega)
    have j6 : ((k : Int) + 1 - 1) / L ≤ (k : Int) + 1 - 1 := Int.ediv_le_self L (by omega)
    have i1 : (((k : Int) + 1 - 1) % L).toNat < B.length := by omega
    have i2 : ((((k : Int) + 1 - 1) * 7 + 3) % L).toNat < B.length := by omega
    have b1 := hB.1 _ (List.getElem_mem i1)
    have b2 := hB.1 _ (List.getElem_mem i2)
    obtain ⟨X, hX⟩ : ∃ X : Int, X = (B[(((k : Int) + 1 - 1) % L).toNat] : Int) * 131 + (B[((((k : Int) + 1 - 1) * 7 + 3) % L).toNat] : Int) * 1117 + ((k : Int) + 1 - 1) * 29 + ((k : Int) + 1 - 1) / L * 53 := ⟨_, rfl⟩
    have x1 : 0 ≤ X ∧ X < 1073741824 := by omega
    have x2 := xor_in x1.1 x1.2 (show 0 ≤ X / 64 by omega) (by omega)
    refine ⟨Go.bits .xor .i64 X (X / 64) % n, fun h => ⟨Int.emod_nonneg _ (by omega), Int.emod_lt_of_pos _ (by omega)⟩, fun h => by omega, ?_⟩
    subst hX hL
    refine spec_mk ctx_mixed ctx_enters 1 Tryz.func56 rfl rfl (Nat.le_of_ble_eq_true rfl) 1 rfl ?_; conv => whnf
    repeat' ((first | (with_reducible first | refine d_chk ?_ | refine Br.tt ?_ | refine Br.ff ?_ | refine Br.beq ?_ | refine Br.bne ?_ | refine Br.nt ?_ | refine Br.nf ?_ | refine d_wrap ?_ | refine d_rem ?_ | refine d_nat ?_ | refine d_get (by omega) ?_ | refine Br.yesd ?_ | refine Br.nod ?_ | refine Br.yesn ?_ | refine Br.nodn ?_ | refine d_le ?_ | refine d_lt ?_ | refine And.intro ?_ ?_ | exact trivial | exact .inr rfl | rfl | refine sc_int | refine sc_bt ?_ | refine sc_bf ?_ | refine sc_bb ?_ | refine sc_bh ?_ | refine sc_ih ?_) | with_reducible refine d_mod ?_ | with_reducible refine d_div ?_ | with_reducible refine d_xor ?_ | refine d_nati ?_ | exact fun h => by omega | with_reducible refine d_left [(0, 0)] ?_ ?_ | with_reducible refine Br.dec (fun _ => ?_) (fun _ => ?_) | with_reducible refine Br.decn (fun _ => ?_) (fun _ => ?_) | with_reducible refine d_left [] ?_ ?_ | exact rfl | exact Nat.le_of_ble_eq_true rfl | (refine Nat.le_of_eq ?_; simp [rows, seqI]; done) | refine call_go rfl rfl [] ?_ | (refine Hid.mk ?_; first | decide | omega | (simp <;> omega) | (intro e; subst e; omega) | (intro e; subst e; simp_all; done) | exact Prod.ext (by omega) (by omega))) <;> conv => whnf)
end Go.Proofs.YtdjoodbidcncaaaGreatDoor.AW

/- The row of a law that draws: a slice of bytes that came in. -/
namespace Go.Proofs.YtdjoodbidcncaaaGreatDoor.AW
open Go Go.ChangeShapes Go.WideShapes Go.ChangeAt Go.RowKit Go.Conc
set_option linter.unusedVariables false
/-- a slice of bytes that came in -/
structure BlAt (w : World) (v : Value) (l : List Nat) : Prop where
  rep : RepA w (rowE w) (sb l) v
  len : l.length ≤ 9223372036854775807
  byte : ∀ b ∈ l, b < 256
section
variable {H : Type} {enc : TypeId × Value → H} {w : World} {base : Nat} {spare : Nat → Bool} {held : Bool}
theorem cells_u8 : Tryz.prog.cellsOf 5 = 1 := by kernel_rfl
theorem open_bl {n : Nat} {cs : List Value} {x : DataW H × List MemPlace} (h : DataW.trod enc Tryz.prog w base spare held n 22 cs = some x) : ∃ v l, cs = [v] ∧ BlAt w v l := by
  rcases open_ints Tryz.underlying22 Tryz.underlying5 cells_u8 h with ⟨rfl, _⟩ | ⟨a, len, cap, zs, rfl, hb, hl, hm, hz, hx, hc, hwz⟩
  · refine ⟨_, [], rfl, .cv _ _ (.ro _ _ _ none 0 0 (fun _ _ => undef) rfl (Nat.le_refl _) (fun x hx => by cases hx) (by simp [rows]) (by simp [rows]) (by simp [rows])), by simp, by simp⟩
  · have hbz : ∀ z ∈ zs, 0 ≤ z ∧ z ≤ 255 := fun z h => bounds_u8 (hwz z h)
    have hlz : len ≤ zs.length := by rw [hz]; split <;> omega
    have hsp : ∀ i, i < zs.length → (a.add i).spot = none := fun i hi => World.cell?_spot (hc i hi)
    refine ⟨_, (zs.take len).map Int.toNat, rfl, .cv _ _ (.ro _ _ _ (some a) len cap (fun i _ => .int .u8 (zs.getD i 0)) (by simp [rows]; omega) hl (fun x hx => by cases hx) (fun e he => ?_) (fun i e he => ?_) (fun i e k x he hx => ?_)), ?_, ?_⟩
    · simp only [rows, List.mem_map] at he
      obtain ⟨_, _, rfl⟩ := he; rfl
    · have hi : i < ((zs.take len).map Int.toNat).length := by have := (List.getElem?_eq_some_iff.1 he).1; simpa [rows] using this
      have hi2 : i < zs.length := by simp at hi; omega
      rw [rows_get hi] at he
      cases he
      have h0 := hc 0 (by omega)
      have hspa : a.spot = none := by have := hsp 0 (by omega); simpa [Addr.add] using this
      have hlt : a.block < w.heap.size := by
        have : (a.add 0).block < w.heap.size := Nat.lt_of_not_le fun hle => by
          simp [World.cell?, Array.getElem?_eq_none hle] at h0
        simpa [Addr.add] using this
      refine ⟨a, rfl, hspa, hlt, fun k x hx => ?_⟩
      cases k with
      | zero =>
        have := hc i hi2
        obtain ⟨b, off, sp⟩ := a
        have hspa : sp = none := hspa
        subst hspa
        simpa [cellAt, Go.WideShapes.add_plain] using this
      | succ k => simp at hx
    · have hi : i < ((zs.take len).map Int.toNat).length := by have := (List.getElem?_eq_some_iff.1 he).1; simpa [rows] using this
      have hi2 : i < zs.length := by simp at hi; omega
      rw [rows_get hi] at he
      cases he
      cases k with
      | zero =>
        simp at hx
        subst hx
        have hz0 := hbz _ (List.getElem_mem hi2)
        rw [show zs.getD i 0 = zs[i] by simp [List.getD, hi2]]
        first | rw [show ((zs[i].toNat : Nat) : Int) = zs[i] by omega] | rw [show max zs[i] 0 = zs[i] by omega]
        exact .sc (.int .u8 _) rfl
      | succ k => simp at hx
    · have : cap ≤ 9223372036854775807 := hm
      simp; omega
    · intro b hb'
      simp only [List.mem_map] at hb'
      obtain ⟨z, hz', rfl⟩ := hb'
      have := hbz z (List.mem_of_mem_take hz')
      omega
end
end Go.Proofs.YtdjoodbidcncaaaGreatDoor.AW
