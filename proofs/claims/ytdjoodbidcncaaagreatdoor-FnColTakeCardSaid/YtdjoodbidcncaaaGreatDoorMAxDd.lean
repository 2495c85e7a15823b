/- A part is counted: the reference. -/
import Derived.Test.YtdjoodbidcncaaaGreatDoorMAxDc
set_option linter.unusedVariables false
set_option linter.unusedSimpArgs false
namespace Go.Proofs.YtdjoodbidcncaaaGreatDoor.AW
open Go
set_option maxRecDepth 10000
set_option maxHeartbeats 2000000 in
theorem l22Take_s (c : Co) (p : Prt) (hc : CoOk c) (hp : PrOk p) : Spec ctx 61 [.agg (coL c), prA p] [] (.tup [cownA c.side c.kind (ctake c p).sum.length (ctake c p).ids.length, bv (decide (TakeOk c p))]) (cownH (ctake c p).sum (ctake c p).ids) := by
  obtain ⟨c1, ⟨c2, c3, c4⟩, c5, c6, c7⟩ := hc
  obtain ⟨p1, p2, p3, p4, p5⟩ := hp
  have hL := lenOf_le c.kind
  have hM := plen_le p.kind
  have la := rows_len ci c.sum
  have lb := rows_len ci c.ids
  have lp := rows_len ci p.list
  have sC := l22Copy_s c (by omega) (by omega)
  have sH := l22Has_s c.ids p.id (by omega)
  by_cases h : TakeOk c p
  · have e : ctake c p = { c with sum := zipE fsum c.sum (p.list.take c.sum.length), ids := c.ids ++ [p.id] } := by unfold ctake; rw [if_pos h]
    rw [e, decide_eq_true h]
    obtain ⟨h1, h2, h3, h4⟩ := h
    have hle : c.sum.length ≤ p.list.length := by rw [← h2] at c3; unfold plen at p4; rw [if_pos p2] at p4; omega
    have hz : c.sum.length = (p.list.take c.sum.length).length := by rw [List.length_take]; omega
    have sS := l3Sum_s c.sum (p.list.take c.sum.length) hz (by omega)
    have sT := TypeLenL_s p.kind c.sum.length (by rw [h2]; omega)
    rw [decide_eq_false h3] at sH
    simp only [zipE_len hz, List.length_append, List.length_cons, List.length_nil]
    refine spec_mk ctx_mixed ctx_enters 9 Tryz.func61 rfl rfl (Nat.le_of_ble_eq_true rfl) 0 rfl ?_; conv => whnf
    repeat' ((first | (with_reducible first | refine d_chk ?_ | refine Br.tt ?_ | refine Br.ff ?_ | refine Br.beq ?_ | refine Br.bne ?_ | refine Br.nt ?_ | refine Br.nf ?_ | refine d_wrap ?_ | refine d_rem ?_ | refine d_nat ?_ | refine d_get (by omega) ?_ | refine Br.yesd ?_ | refine Br.nod ?_ | refine Br.yesn ?_ | refine Br.nodn ?_ | refine d_le ?_ | refine d_lt ?_ | refine And.intro ?_ ?_ | exact trivial | exact .inr rfl | rfl | refine sc_int | refine sc_bt ?_ | refine sc_bf ?_ | refine sc_bb ?_ | refine sc_bh ?_ | refine sc_ih ?_) | refine callW0 sH rfl trivial ?_ | refine callW0 sT rfl trivial ?_ | with_reducible refine d_left [(0, 3), (1, 7)] ?_ ?_ | (show (2 * (0 + (rows ci c.ids).length + 1) + 768) * 8 ≤ 281474976710656; omega) | (show (2 * (0 + (rows ci c.ids).length) + 768) * 8 ≤ 281474976710656; omega) | (refine callWln (f := 119) sS 1 ⟨trivial, rows_sc _, trivial⟩ ?_ ?_; focus ((repeat' (first | exact trivial | exact rfl | exact .inr rfl | exact .inl rfl | exact rows_dt _ _ | refine And.intro ?_ ?_)); done)) | exact fun h => by cases h | with_reducible refine Br.dec (fun _ => ?_) (fun _ => ?_) | with_reducible refine Br.decn (fun _ => ?_) (fun _ => ?_) | with_reducible refine d_left [] ?_ ?_ | exact rfl | exact Nat.le_of_ble_eq_true rfl | (refine Nat.le_of_eq ?_; simp [rows, seqI]; done) | refine call_go rfl rfl [] ?_ | (refine Hid.mk ?_; first | decide | omega | (simp <;> omega) | (intro e; subst e; omega) | (intro e; subst e; simp_all; done) | exact Prod.ext (by omega) (by omega))) <;> conv => whnf)
    · show 0 + (rows ci c.ids).length + 1 = _
      omega
    · show List.take (0 + (rows ci c.ids).length) (rows ci c.ids) ++ [ci p.id] = _
      rw [List.take_of_length_le (by omega)]
      simp only [rows, List.map_append, List.map_cons, List.map_nil]
  · have e : ctake c p = c := by unfold ctake; rw [if_neg h]
    rw [e, decide_eq_false h]
    refine spec_mk ctx_mixed ctx_enters 9 Tryz.func61 rfl rfl (Nat.le_of_ble_eq_true rfl) 0 rfl ?_; conv => whnf
    repeat' ((first | (with_reducible first | refine d_chk ?_ | refine Br.tt ?_ | refine Br.ff ?_ | refine Br.beq ?_ | refine Br.bne ?_ | refine Br.nt ?_ | refine Br.nf ?_ | refine d_wrap ?_ | refine d_rem ?_ | refine d_nat ?_ | refine d_get (by omega) ?_ | refine Br.yesd ?_ | refine Br.nod ?_ | refine Br.yesn ?_ | refine Br.nodn ?_ | refine d_le ?_ | refine d_lt ?_ | refine And.intro ?_ ?_ | exact trivial | exact .inr rfl | rfl | refine sc_int | refine sc_bt ?_ | refine sc_bf ?_ | refine sc_bb ?_ | refine sc_bh ?_ | refine sc_ih ?_) | refine callW0 sH rfl trivial ?_ | refine callWn sC 2 rfl ⟨⟨trivial, trivial, trivial, trivial, trivial⟩, rows_sc _, rows_sc _, trivial⟩ ?_ | with_reducible refine d_left [(0, 3), (1, 4)] ?_ ?_ | exact absurd ⟨by omega, by omega, by assumption, by omega⟩ h | with_reducible refine Br.dec (fun _ => ?_) (fun _ => ?_) | with_reducible refine Br.decn (fun _ => ?_) (fun _ => ?_) | with_reducible refine d_left [] ?_ ?_ | exact rfl | exact Nat.le_of_ble_eq_true rfl | (refine Nat.le_of_eq ?_; simp [rows, seqI]; done) | refine call_go rfl rfl [] ?_ | (refine Hid.mk ?_; first | decide | omega | (simp <;> omega) | (intro e; subst e; omega) | (intro e; subst e; simp_all; done) | exact Prod.ext (by omega) (by omega))) <;> conv => whnf)
theorem sColTake_n (c : Co) (p : Prt) (h1 : c.sum.length ≤ 1100000) (h2 : c.ids.length ≤ 1100000) (h3 : p.list.length ≤ 1100000) (h : ¬ (CoOk c ∧ PrOk p)) : Spec ctx 16 [.agg (coL c), prA p] [] (.tup [.agg [iv .i64 0, iv .i64 0, nilS, nilS], bv false]) [] := by
  have sC := sColOk_s c h1 h2
  have sP := sPartOk_s p h3
  refine spec_mk ctx_mixed ctx_enters 0 Tryz.func16 rfl rfl (Nat.le_of_ble_eq_true rfl) 0 rfl ?_; conv => whnf
  repeat' ((first | (with_reducible first | refine d_chk ?_ | refine Br.tt ?_ | refine Br.ff ?_ | refine Br.beq ?_ | refine Br.bne ?_ | refine Br.nt ?_ | refine Br.nf ?_ | refine d_wrap ?_ | refine d_rem ?_ | refine d_nat ?_ | refine d_get (by omega) ?_ | refine Br.yesd ?_ | refine Br.nod ?_ | refine Br.yesn ?_ | refine Br.nodn ?_ | refine d_le ?_ | refine d_lt ?_ | refine And.intro ?_ ?_ | exact trivial | exact .inr rfl | rfl | refine sc_int | refine sc_bt ?_ | refine sc_bf ?_ | refine sc_bb ?_ | refine sc_bh ?_ | refine sc_ih ?_) | refine callW0 sC rfl trivial ?_ | refine callW0 sP rfl trivial ?_ | exact absurd ⟨by assumption, by assumption⟩ h | with_reducible refine Br.dec (fun _ => ?_) (fun _ => ?_) | with_reducible refine Br.decn (fun _ => ?_) (fun _ => ?_) | with_reducible refine d_left [] ?_ ?_ | exact rfl | exact Nat.le_of_ble_eq_true rfl | (refine Nat.le_of_eq ?_; simp [rows, seqI]; done) | refine call_go rfl rfl [] ?_ | (refine Hid.mk ?_; first | decide | omega | (simp <;> omega) | (intro e; subst e; omega) | (intro e; subst e; simp_all; done) | exact Prod.ext (by omega) (by omega))) <;> conv => whnf)
theorem sColTake_s (c : Co) (p : Prt) (hc : CoOk c) (hp : PrOk p) : Spec ctx 16 [.agg (coL c), prA p] [] (.tup [cownA c.side c.kind (ctake c p).sum.length (ctake c p).ids.length, bv (decide (TakeOk c p))]) (cownH (ctake c p).sum (ctake c p).ids) := by
  have h0 := hc
  have h1 := hp
  obtain ⟨c1, ⟨c2, c3, c4⟩, c5, c6, c7⟩ := h0
  obtain ⟨p1, p2, p3, p4, p5⟩ := h1
  have hL := lenOf_le c.kind
  have hM := plen_le p.kind
  have sC := sColOk_s c (by omega) (by omega)
  have sP := sPartOk_s p (by omega)
  have sT := l22Take_s c p hc hp
  rw [decide_eq_true hc] at sC
  rw [decide_eq_true hp] at sP
  refine spec_mk ctx_mixed ctx_enters 9 Tryz.func16 rfl rfl (Nat.le_of_ble_eq_true rfl) 0 rfl ?_; conv => whnf
  repeat' ((first | (with_reducible first | refine d_chk ?_ | refine Br.tt ?_ | refine Br.ff ?_ | refine Br.beq ?_ | refine Br.bne ?_ | refine Br.nt ?_ | refine Br.nf ?_ | refine d_wrap ?_ | refine d_rem ?_ | refine d_nat ?_ | refine d_get (by omega) ?_ | refine Br.yesd ?_ | refine Br.nod ?_ | refine Br.yesn ?_ | refine Br.nodn ?_ | refine d_le ?_ | refine d_lt ?_ | refine And.intro ?_ ?_ | exact trivial | exact .inr rfl | rfl | refine sc_int | refine sc_bt ?_ | refine sc_bf ?_ | refine sc_bb ?_ | refine sc_bh ?_ | refine sc_ih ?_) | refine callW0 sC rfl trivial ?_ | refine callW0 sP rfl trivial ?_ | refine callWn sT 2 rfl ⟨⟨⟨trivial, trivial, trivial, trivial, trivial⟩, trivial, trivial⟩, rows_sc _, rows_sc _, trivial⟩ ?_ | with_reducible refine d_left [(0, 3), (1, 4)] ?_ ?_ | with_reducible refine Br.dec (fun _ => ?_) (fun _ => ?_) | with_reducible refine Br.decn (fun _ => ?_) (fun _ => ?_) | with_reducible refine d_left [] ?_ ?_ | exact rfl | exact Nat.le_of_ble_eq_true rfl | (refine Nat.le_of_eq ?_; simp [rows, seqI]; done) | refine call_go rfl rfl [] ?_ | (refine Hid.mk ?_; first | decide | omega | (simp <;> omega) | (intro e; subst e; omega) | (intro e; subst e; simp_all; done) | exact Prod.ext (by omega) (by omega))) <;> conv => whnf)
end Go.Proofs.YtdjoodbidcncaaaGreatDoor.AW
