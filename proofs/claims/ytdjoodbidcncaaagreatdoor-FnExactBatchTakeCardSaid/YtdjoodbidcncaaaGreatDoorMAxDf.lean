/- A part is counted: the program. -/
import Derived.Test.YtdjoodbidcncaaaGreatDoorMAxDd
import Derived.Test.YtdjoodbidcncaaaGreatDoorMAxAv
set_option linter.unusedVariables false
set_option linter.unusedSimpArgs false
namespace Go.Proofs.YtdjoodbidcncaaaGreatDoor.AW
open Go
set_option maxRecDepth 10000
theorem ColHas_s (c : Co) (id : Int) (hc : CoOk c) : Spec ctx 21 [.agg (coL c), iv .i64 id] [] (bv (decide (id ∈ c.ids))) [] := by
  have h0 := hc
  obtain ⟨c1, ⟨c2, c3, c4⟩, c5, c6, c7⟩ := h0
  have hL := lenOf_le c.kind
  have sC := iColOk_s c (by omega) (by omega)
  rw [decide_eq_true hc] at sC
  have sG := groupOf_s c.ids (by omega)
  have hu : ctx.P.underlying 87 = some (.map 3 4) := Tryz.underlying87
  have hk : ctx.P.underlying 3 = some (.int .i64) := Tryz.underlying3
  have hg := getM_setOf c.ids id
  have hnr : NoR (.tup [.mp 0, bv (decide c.ids.Nodup)]) ∧ NoRH [(0, some (.mp (setOf c.ids)))] := ⟨⟨trivial, trivial, trivial⟩, fun e he x hx => by
    have h1 := setOf_all c.ids e he
    rw [h1] at hx
    simp at hx
    subst hx; trivial, trivial⟩
  by_cases hm : id ∈ c.ids
  · rw [if_pos hm] at hg
    rw [decide_eq_true hm]
    refine spec_mk ctx_mixed ctx_enters 0 Tryz.func21 rfl rfl (Nat.le_of_ble_eq_true rfl) 0 rfl ?_; conv => whnf
    repeat' ((first | (with_reducible first | refine d_chk ?_ | refine Br.tt ?_ | refine Br.ff ?_ | refine Br.beq ?_ | refine Br.bne ?_ | refine Br.nt ?_ | refine Br.nf ?_ | refine d_wrap ?_ | refine d_rem ?_ | refine d_nat ?_ | refine d_get (by omega) ?_ | refine Br.yesd ?_ | refine Br.nod ?_ | refine Br.yesn ?_ | refine Br.nodn ?_ | refine d_le ?_ | refine d_lt ?_ | refine And.intro ?_ ?_ | exact trivial | exact .inr rfl | rfl | refine sc_int | refine sc_bt ?_ | refine sc_bf ?_ | refine sc_bb ?_ | refine sc_bh ?_ | refine sc_ih ?_) | refine callW0 sC rfl trivial ?_ | refine callWn sG 1 rfl hnr ?_ | refine map_get rfl hu hk rfl rfl rfl hg rfl rfl ?_ | with_reducible refine Br.dec (fun _ => ?_) (fun _ => ?_) | with_reducible refine Br.decn (fun _ => ?_) (fun _ => ?_) | with_reducible refine d_left [] ?_ ?_ | exact rfl | exact Nat.le_of_ble_eq_true rfl | (refine Nat.le_of_eq ?_; simp [rows, seqI]; done) | refine call_go rfl rfl [] ?_ | (refine Hid.mk ?_; first | decide | omega | (simp <;> omega) | (intro e; subst e; omega) | (intro e; subst e; simp_all; done) | exact Prod.ext (by omega) (by omega))) <;> conv => whnf)
  · rw [if_neg hm] at hg
    rw [decide_eq_false hm]
    refine spec_mk ctx_mixed ctx_enters 0 Tryz.func21 rfl rfl (Nat.le_of_ble_eq_true rfl) 0 rfl ?_; conv => whnf
    repeat' ((first | (with_reducible first | refine d_chk ?_ | refine Br.tt ?_ | refine Br.ff ?_ | refine Br.beq ?_ | refine Br.bne ?_ | refine Br.nt ?_ | refine Br.nf ?_ | refine d_wrap ?_ | refine d_rem ?_ | refine d_nat ?_ | refine d_get (by omega) ?_ | refine Br.yesd ?_ | refine Br.nod ?_ | refine Br.yesn ?_ | refine Br.nodn ?_ | refine d_le ?_ | refine d_lt ?_ | refine And.intro ?_ ?_ | exact trivial | exact .inr rfl | rfl | refine sc_int | refine sc_bt ?_ | refine sc_bf ?_ | refine sc_bb ?_ | refine sc_bh ?_ | refine sc_ih ?_) | refine callW0 sC rfl trivial ?_ | refine callWn sG 1 rfl hnr ?_ | refine map_get rfl hu hk rfl rfl rfl hg rfl rfl ?_ | with_reducible refine Br.dec (fun _ => ?_) (fun _ => ?_) | with_reducible refine Br.decn (fun _ => ?_) (fun _ => ?_) | with_reducible refine d_left [] ?_ ?_ | exact rfl | exact Nat.le_of_ble_eq_true rfl | (refine Nat.le_of_eq ?_; simp [rows, seqI]; done) | refine call_go rfl rfl [] ?_ | (refine Hid.mk ?_; first | decide | omega | (simp <;> omega) | (intro e; subst e; omega) | (intro e; subst e; simp_all; done) | exact Prod.ext (by omega) (by omega))) <;> conv => whnf)
theorem zip_eq (xs ys : List Int) (hA : ∀ x ∈ xs, okE x) (hB : ∀ y ∈ ys, okE y) : zipE (fun x y => elm (x + y)) xs ys = zipE fsum xs ys := by
  unfold zipE
  apply List.ext_getElem
  · simp
  intro i h1 h2
  simp only [List.getElem_zipWith]
  have a := hA _ (List.getElem_mem (l := xs) (n := i) (by simp at h1; omega))
  have b := hB _ (List.getElem_mem (l := ys) (n := i) (by simp at h1; omega))
  unfold fsum
  rw [if_pos ⟨a, b⟩]
  generalize xs[i]'(by simp at h1; omega) = x at *
  generalize ys[i]'(by simp at h1; omega) = y at *
  obtain ⟨a1, a2⟩ := a
  obtain ⟨b1, b2⟩ := b
  unfold elm
  rw [show IntKind.i64.wrap (x + y) = x + y from wrap_i64 (by omega) (by omega)]
  have e1 : (x + y).tmod 31 = (x + y) % 31 := Int.tmod_eq_emod_of_nonneg (by omega)
  rw [e1, wrap_i64 (by omega) (by omega), Int.tmod_eq_emod_of_nonneg (by omega)]
  omega
set_option maxHeartbeats 4000000 in
theorem iColTake_s (c : Co) (p : Prt) (hc : CoOk c) (hp : PrOk p) : Spec ctx 17 [.agg (coL c), prA p] [] (.tup [cownA c.side c.kind (ctake c p).sum.length (ctake c p).ids.length, bv (decide (TakeOk c p))]) (cownH (ctake c p).sum (ctake c p).ids) := by
  have h0 := hc
  have h1 := hp
  obtain ⟨c1, ⟨c2, c3, c4⟩, c5, c6, c7⟩ := h0
  obtain ⟨p1, p2, p3, p4, p5⟩ := h1
  have hL := lenOf_le c.kind
  have hM := plen_le p.kind
  have la := rows_len ci c.sum
  have lb := rows_len ci c.ids
  have lp := rows_len ci p.list
  have sC := iColOk_s c (by omega) (by omega)
  have sP := iPartOk_s p (by omega)
  have sY := copied_s c (by omega) (by omega)
  have sH := ColHas_s c p.id hc
  rw [decide_eq_true hc] at sC
  rw [decide_eq_true hp] at sP
  by_cases h : TakeOk c p
  · have e : ctake c p = { c with sum := zipE fsum c.sum (p.list.take c.sum.length), ids := c.ids ++ [p.id] } := by unfold ctake; rw [if_pos h]
    rw [e, decide_eq_true h]
    obtain ⟨h1, h2, h3, h4⟩ := h
    have hle : c.sum.length ≤ p.list.length := by rw [← h2] at c3; unfold plen at p4; rw [if_pos p2] at p4; omega
    have hz : c.sum.length = (p.list.take c.sum.length).length := by rw [List.length_take]; omega
    have hB : ∀ y ∈ p.list.take c.sum.length, okE y := fun y hy => p5 y (List.mem_of_mem_take hy)
    have sS := ShareSum_s c.sum (p.list.take c.sum.length) ⟨by omega, c4⟩ ⟨by omega, hB⟩ hz
    rw [zip_eq _ _ c4 hB] at sS
    have sT := iTypeLenL_s c.kind c.sum.length (by omega) c2
    rw [decide_eq_false h3] at sH
    have lz := zipE_len (f := fsum) hz
    rw [lz] at sS
    simp only [zipE_len hz, List.length_append, List.length_cons, List.length_nil]
    refine spec_mk ctx_mixed ctx_enters 12 Tryz.func17 rfl rfl (Nat.le_of_ble_eq_true rfl) 0 rfl ?_; conv => whnf
    repeat' ((first | (with_reducible first | refine d_chk ?_ | refine Br.tt ?_ | refine Br.ff ?_ | refine Br.beq ?_ | refine Br.bne ?_ | refine Br.nt ?_ | refine Br.nf ?_ | refine d_wrap ?_ | refine d_rem ?_ | refine d_nat ?_ | refine d_get (by omega) ?_ | refine Br.yesd ?_ | refine Br.nod ?_ | refine Br.yesn ?_ | refine Br.nodn ?_ | refine d_le ?_ | refine d_lt ?_ | refine And.intro ?_ ?_ | exact trivial | exact .inr rfl | rfl | refine sc_int | refine sc_bt ?_ | refine sc_bf ?_ | refine sc_bb ?_ | refine sc_bh ?_ | refine sc_ih ?_) | refine callW0 sC rfl trivial ?_ | refine callW0 sP rfl trivial ?_ | refine callWn sY 2 rfl ⟨⟨trivial, trivial, trivial, trivial, trivial⟩, rows_sc _, rows_sc _, trivial⟩ ?_ | refine callW0 sH rfl trivial ?_ | refine callW0 sT rfl trivial ?_ | (refine callWln (f := 22) sS 1 ⟨⟨trivial, trivial, trivial⟩, rows_sc _, trivial⟩ ?_ ?_; focus ((repeat' (first | exact trivial | exact rfl | exact .inr rfl | exact .inl rfl | exact rows_dt _ _ | refine And.intro ?_ ?_)); done)) | (refine call_go (f := 64) rfl rfl [8] ?_; (conv => whnf); refine callWp (Clip_s (c.ids.length + 1) (c.ids ++ [p.id]) (by simp) (by omega)) ?_ ?_; focus ((repeat' (first | exact trivial | exact rfl | exact .inr rfl | exact .inl rfl | refine And.intro ?_ ?_)); done)) | with_reducible refine d_left [(0, 6), (1, 8)] ?_ ?_ | (show (2 * (c.ids.length + 1) + 768) * 8 ≤ 281474976710656; omega) | exact fun h => by cases h | with_reducible refine Br.dec (fun _ => ?_) (fun _ => ?_) | with_reducible refine Br.decn (fun _ => ?_) (fun _ => ?_) | with_reducible refine d_left [] ?_ ?_ | exact rfl | exact Nat.le_of_ble_eq_true rfl | (refine Nat.le_of_eq ?_; simp [rows, seqI]; done) | refine call_go rfl rfl [] ?_ | (refine Hid.mk ?_; first | decide | omega | (simp <;> omega) | (intro e; subst e; omega) | (intro e; subst e; simp_all; done) | exact Prod.ext (by omega) (by omega))) <;> conv => whnf)
    · show List.take c.ids.length (rows ci c.ids) ++ [ci p.id] = _
      rw [List.take_of_length_le (by omega)]
      simp only [rows, List.map_append, List.map_cons, List.map_nil]
    all_goals exact .inl rfl
  · have e : ctake c p = c := by unfold ctake; rw [if_neg h]
    rw [e, decide_eq_false h]
    refine spec_mk ctx_mixed ctx_enters 12 Tryz.func17 rfl rfl (Nat.le_of_ble_eq_true rfl) 0 rfl ?_; conv => whnf
    repeat' ((first | (with_reducible first | refine d_chk ?_ | refine Br.tt ?_ | refine Br.ff ?_ | refine Br.beq ?_ | refine Br.bne ?_ | refine Br.nt ?_ | refine Br.nf ?_ | refine d_wrap ?_ | refine d_rem ?_ | refine d_nat ?_ | refine d_get (by omega) ?_ | refine Br.yesd ?_ | refine Br.nod ?_ | refine Br.yesn ?_ | refine Br.nodn ?_ | refine d_le ?_ | refine d_lt ?_ | refine And.intro ?_ ?_ | exact trivial | exact .inr rfl | rfl | refine sc_int | refine sc_bt ?_ | refine sc_bf ?_ | refine sc_bb ?_ | refine sc_bh ?_ | refine sc_ih ?_) | refine callW0 sC rfl trivial ?_ | refine callW0 sP rfl trivial ?_ | refine callWn sY 2 rfl ⟨⟨trivial, trivial, trivial, trivial, trivial⟩, rows_sc _, rows_sc _, trivial⟩ ?_ | refine callW0 sH rfl trivial ?_ | with_reducible refine d_left [(0, 3), (1, 4)] ?_ ?_ | exact absurd ⟨by omega, by omega, by assumption, by omega⟩ h | with_reducible refine Br.dec (fun _ => ?_) (fun _ => ?_) | with_reducible refine Br.decn (fun _ => ?_) (fun _ => ?_) | with_reducible refine d_left [] ?_ ?_ | exact rfl | exact Nat.le_of_ble_eq_true rfl | (refine Nat.le_of_eq ?_; simp [rows, seqI]; done) | refine call_go rfl rfl [] ?_ | (refine Hid.mk ?_; first | decide | omega | (simp <;> omega) | (intro e; subst e; omega) | (intro e; subst e; simp_all; done) | exact Prod.ext (by omega) (by omega))) <;> conv => whnf)
end Go.Proofs.YtdjoodbidcncaaaGreatDoor.AW
