/- The law FnExactColTake: it always says true. -/
import Derived.Test.YtekpddiahnaomaaGreatDoorMAxU
import Derived.Test.YtekpddiahnaomaaGreatDoorMAxDc
import Derived.Test.YtekpddiahnaomaaGreatDoorMAxAv
set_option linter.unusedVariables false
set_option linter.unusedSimpArgs false
namespace Go.Proofs.YtekpddiahnaomaaGreatDoor.AW
open Go
set_option maxRecDepth 10000
theorem rows_all (l : List Int) : List.take l.length (List.drop 0 (rows ci l)) = rows ci l := by rw [List.drop_zero]; exact List.take_of_length_le (by simp [rows])
theorem sq_all (k : Int) (L : Nat) : List.take L (List.drop 0 (rows ci (seqI k L))) = rows ci (seqI k L) := by rw [List.drop_zero]; exact List.take_of_length_le (by simp [rows, seqI])
theorem ctake_len (c : Co) (p : Prt) : (ctake c p).sum.length ≤ c.sum.length ∧ (ctake c p).ids.length ≤ c.ids.length + 1 := by
  unfold ctake
  split
  · exact ⟨by simp [zipE]; omega, by simp⟩
  · exact ⟨Nat.le_refl _, by omega⟩
theorem lawCt_big (c : Co) (p : Prt) (h1 : c.sum.length ≤ 9223372036854775807) (h2 : c.ids.length ≤ 9223372036854775807) (h3 : p.list.length ≤ 9223372036854775807) (h : 1048576 < c.sum.length + c.ids.length + p.list.length) : Top 3 [.agg (coL c), prA p] := by
  have s1 := szCol_s c 1048576 h1 h2 (by omega)
  by_cases g : (1048576 : Int) - c.sum.length < 0
  · rw [if_pos g] at s1
    refine top_mk Tryz.func3 (by kernel_rfl) rfl rfl (Nat.le_of_ble_eq_true rfl) ?_; conv => whnf
    repeat' ((first | (with_reducible first | refine d_chk ?_ | refine Br.tt ?_ | refine Br.ff ?_ | refine Br.beq ?_ | refine Br.bne ?_ | refine Br.nt ?_ | refine Br.nf ?_ | refine d_wrap ?_ | refine d_rem ?_ | refine d_nat ?_ | refine d_get (by omega) ?_ | refine Br.yesd ?_ | refine Br.nod ?_ | refine Br.yesn ?_ | refine Br.nodn ?_ | refine d_le ?_ | refine d_lt ?_ | refine And.intro ?_ ?_ | exact trivial | exact .inr rfl | rfl | refine sc_int | refine sc_bt ?_ | refine sc_bf ?_ | refine sc_bb ?_ | refine sc_bh ?_ | refine sc_ih ?_) | refine callW0 s1 rfl trivial ?_ | with_reducible refine Br.dec (fun _ => ?_) (fun _ => ?_) | with_reducible refine Br.decn (fun _ => ?_) (fun _ => ?_) | with_reducible refine d_left [] ?_ ?_ | exact rfl | exact Nat.le_of_ble_eq_true rfl | (refine Nat.le_of_eq ?_; simp [rows, seqI]; done) | refine call_go rfl rfl [] ?_ | (refine Hid.mk ?_; first | decide | omega | (simp <;> omega) | (intro e; subst e; omega) | (intro e; subst e; simp_all; done) | exact Prod.ext (by omega) (by omega))) <;> conv => whnf)
  rw [if_neg g] at s1
  by_cases g2 : (1048576 : Int) - c.sum.length - c.ids.length < 0
  · rw [if_pos g2] at s1
    refine top_mk Tryz.func3 (by kernel_rfl) rfl rfl (Nat.le_of_ble_eq_true rfl) ?_; conv => whnf
    repeat' ((first | (with_reducible first | refine d_chk ?_ | refine Br.tt ?_ | refine Br.ff ?_ | refine Br.beq ?_ | refine Br.bne ?_ | refine Br.nt ?_ | refine Br.nf ?_ | refine d_wrap ?_ | refine d_rem ?_ | refine d_nat ?_ | refine d_get (by omega) ?_ | refine Br.yesd ?_ | refine Br.nod ?_ | refine Br.yesn ?_ | refine Br.nodn ?_ | refine d_le ?_ | refine d_lt ?_ | refine And.intro ?_ ?_ | exact trivial | exact .inr rfl | rfl | refine sc_int | refine sc_bt ?_ | refine sc_bf ?_ | refine sc_bb ?_ | refine sc_bh ?_ | refine sc_ih ?_) | refine callW0 s1 rfl trivial ?_ | with_reducible refine Br.dec (fun _ => ?_) (fun _ => ?_) | with_reducible refine Br.decn (fun _ => ?_) (fun _ => ?_) | with_reducible refine d_left [] ?_ ?_ | exact rfl | exact Nat.le_of_ble_eq_true rfl | (refine Nat.le_of_eq ?_; simp [rows, seqI]; done) | refine call_go rfl rfl [] ?_ | (refine Hid.mk ?_; first | decide | omega | (simp <;> omega) | (intro e; subst e; omega) | (intro e; subst e; simp_all; done) | exact Prod.ext (by omega) (by omega))) <;> conv => whnf)
  rw [if_neg g2] at s1
  have s2 := szPart_s p (1048576 - c.sum.length - c.ids.length) h3 (by omega)
  rw [if_pos (by omega)] at s2
  refine top_mk Tryz.func3 (by kernel_rfl) rfl rfl (Nat.le_of_ble_eq_true rfl) ?_; conv => whnf
  repeat' ((first | (with_reducible first | refine d_chk ?_ | refine Br.tt ?_ | refine Br.ff ?_ | refine Br.beq ?_ | refine Br.bne ?_ | refine Br.nt ?_ | refine Br.nf ?_ | refine d_wrap ?_ | refine d_rem ?_ | refine d_nat ?_ | refine d_get (by omega) ?_ | refine Br.yesd ?_ | refine Br.nod ?_ | refine Br.yesn ?_ | refine Br.nodn ?_ | refine d_le ?_ | refine d_lt ?_ | refine And.intro ?_ ?_ | exact trivial | exact .inr rfl | rfl | refine sc_int | refine sc_bt ?_ | refine sc_bf ?_ | refine sc_bb ?_ | refine sc_bh ?_ | refine sc_ih ?_) | refine callW0 s1 rfl trivial ?_ | refine callW0 s2 rfl trivial ?_ | with_reducible refine Br.dec (fun _ => ?_) (fun _ => ?_) | with_reducible refine Br.decn (fun _ => ?_) (fun _ => ?_) | with_reducible refine d_left [] ?_ ?_ | exact rfl | exact Nat.le_of_ble_eq_true rfl | (refine Nat.le_of_eq ?_; simp [rows, seqI]; done) | refine call_go rfl rfl [] ?_ | (refine Hid.mk ?_; first | decide | omega | (simp <;> omega) | (intro e; subst e; omega) | (intro e; subst e; simp_all; done) | exact Prod.ext (by omega) (by omega))) <;> conv => whnf)
set_option maxHeartbeats 8000000 in
theorem lawCt_s (c : Co) (p : Prt) (hc : CoOk c) (hp : PrOk p) : Top 3 [.agg (coL c), prA p] := by
  have h0 := hc
  have h1 := hp
  obtain ⟨c1, ⟨c2, c3, c4⟩, c5, c6, c7⟩ := h0
  obtain ⟨p1, p2, p3, p4, p5⟩ := h1
  have hL := lenOf_le c.kind
  have hM := plen_le p.kind
  have s1 := szCol_s c 1048576 (by omega) (by omega) (by omega)
  rw [if_neg (by omega), if_neg (by omega)] at s1
  have s2 := szPart_s p (1048576 - c.sum.length - c.ids.length) (by omega) (by omega)
  rw [if_neg (by omega)] at s2
  have tC := toCol_s c (by omega) (by omega)
  have tP' := toPart_s p (by omega)
  have sS := sColTake_s c p hc hp
  have sI := iColTake_s c p hc hp
  have nC : NoR (cownA c.side c.kind c.sum.length c.ids.length) ∧ NoRH (cownH c.sum c.ids) := ⟨⟨trivial, trivial, trivial, trivial, trivial⟩, rows_sc _, rows_sc _, trivial⟩
  have nP : NoR (.agg [iv .i64 p.id, iv .i64 p.kind, iv .i64 p.side, .own 0 1 0 p.list.length none]) ∧ NoRH [(0, some (.row 1 (rows ci p.list)))] := ⟨⟨trivial, trivial, trivial, trivial, trivial⟩, rows_sc _, trivial⟩
  have hd : (ctake c p).sum.length ≤ 100 ∧ (ctake c p).ids.length ≤ 100 := by have := ctake_len c p; omega
  generalize ctake c p = d at sS sI hd
  generalize decide (TakeOk c p) = q at sS sI
  have hd0 : (⟨c.side, c.kind, d.sum, d.ids⟩ : Co).sm := ⟨by show d.sum.length ≤ _; omega, by show d.ids.length ≤ _; omega⟩
  have nD : NoR (.tup [cownA c.side c.kind d.sum.length d.ids.length, bv q]) ∧ NoRH (cownH d.sum d.ids) := ⟨⟨⟨trivial, trivial, trivial, trivial, trivial⟩, trivial, trivial⟩, rows_sc _, rows_sc _, trivial⟩
  have hc0 : c.sm := ⟨by unfold Sm; omega, by unfold Sm; omega⟩
  have hp0 : Sm p.list := by unfold Sm; omega
  refine top_mk Tryz.func3 (by kernel_rfl) rfl rfl (Nat.le_of_ble_eq_true rfl) ?_; conv => whnf
  repeat' ((first | (with_reducible first | refine d_chk ?_ | refine Br.tt ?_ | refine Br.ff ?_ | refine Br.beq ?_ | refine Br.bne ?_ | refine Br.nt ?_ | refine Br.nf ?_ | refine d_wrap ?_ | refine d_rem ?_ | refine d_nat ?_ | refine d_get (by omega) ?_ | refine Br.yesd ?_ | refine Br.nod ?_ | refine Br.yesn ?_ | refine Br.nodn ?_ | refine d_le ?_ | refine d_lt ?_ | refine And.intro ?_ ?_ | exact trivial | exact .inr rfl | rfl | refine sc_int | refine sc_bt ?_ | refine sc_bf ?_ | refine sc_bb ?_ | refine sc_bh ?_ | refine sc_ih ?_) | refine callW0 s1 rfl trivial ?_ | refine callW0 s2 rfl trivial ?_ | refine callWn tC 2 rfl nC ?_ | refine callWn tP' 1 rfl nP ?_ | (refine callWln (f := 14) sS 2 nD ?_ ?_; focus ((repeat' (first | exact trivial | exact rfl | exact .inr rfl | exact .inl rfl | exact rows_all _ | refine And.intro ?_ ?_)); done)) | (refine callWln (f := 17) sI 2 nD ?_ ?_; focus ((repeat' (first | exact trivial | exact rfl | exact .inr rfl | exact .inl rfl | exact rows_all _ | refine And.intro ?_ ?_)); done)) | (refine callWl (f := 18) (eqCol_s ⟨c.side, c.kind, d.sum, d.ids⟩ ⟨c.side, c.kind, d.sum, d.ids⟩ hd0) trivial ?_ ?_; focus ((repeat' (first | exact trivial | exact rfl | exact .inr rfl | exact .inl rfl | exact rows_all _ | refine And.intro ?_ ?_)); done)) | (refine callWl (f := 18) (eqCol_s c c hc0) trivial ?_ ?_; focus ((repeat' (first | exact trivial | exact rfl | exact .inr rfl | exact .inl rfl | exact rows_all _ | refine And.intro ?_ ?_)); done)) | (refine callWl (f := 19) (eqPart_s p p hp0) trivial ?_ ?_; focus ((repeat' (first | exact trivial | exact rfl | exact .inr rfl | exact .inl rfl | exact rows_all _ | refine And.intro ?_ ?_)); done)) | (refine call_go (f := 20) rfl rfl [8, 9] ?_; (conv => whnf); refine callWp (markCol2_s 1 c.side c.kind c.sum.length c.ids.length c.sum c.ids rfl rfl (by omega) (by omega) (by omega)) ?_ ?_; focus ((repeat' (first | exact trivial | exact rfl | exact .inr rfl | exact .inl rfl | refine And.intro ?_ ?_)); done)) | (refine call_go (f := 21) rfl rfl [11] ?_; (conv => whnf); refine callWp (markPart_s (1 + c.sum.length + c.ids.length) p.id p.kind p.side p.list.length p.list rfl (by omega) (by omega)) ?_ ?_; focus ((repeat' (first | exact trivial | exact rfl | exact .inr rfl | exact .inl rfl | refine And.intro ?_ ?_)); done)) | (refine call_go (f := 20) rfl rfl [13, 14] ?_; (conv => whnf); refine callWp (markCol2_s 1 c.side c.kind d.sum.length d.ids.length d.sum d.ids rfl rfl (by omega) (by omega) (by omega)) ?_ ?_; focus ((repeat' (first | exact trivial | exact rfl | exact .inr rfl | exact .inl rfl | refine And.intro ?_ ?_)); done)) | (refine callWl (f := 22) (heldCol2_s 1 c.side c.kind d.sum.length d.ids.length (by omega) (by omega) (by omega)) trivial ?_ ?_; focus ((repeat' (first | exact trivial | exact rfl | exact .inr rfl | exact .inl rfl | exact sq_all _ _ | refine And.intro ?_ ?_)); done)) | refine Br.nodn ?_ rfl | with_reducible refine Br.dec (fun _ => ?_) (fun _ => ?_) | with_reducible refine Br.decn (fun _ => ?_) (fun _ => ?_) | with_reducible refine d_left [] ?_ ?_ | exact rfl | exact Nat.le_of_ble_eq_true rfl | (refine Nat.le_of_eq ?_; simp [rows, seqI]; done) | refine call_go rfl rfl [] ?_ | (refine Hid.mk ?_; first | decide | omega | (simp <;> omega) | (intro e; subst e; omega) | (intro e; subst e; simp_all; done) | exact Prod.ext (by omega) (by omega))) <;> conv => whnf)
  all_goals trace_state
set_option maxHeartbeats 8000000 in
theorem lawCt_n (c : Co) (p : Prt) (hl : c.sum.length + c.ids.length + p.list.length ≤ 1048576) (h : ¬ (CoOk c ∧ PrOk p)) : Top 3 [.agg (coL c), prA p] := by
  have s1 := szCol_s c 1048576 (by omega) (by omega) (by omega)
  rw [if_neg (by omega), if_neg (by omega)] at s1
  have s2 := szPart_s p (1048576 - c.sum.length - c.ids.length) (by omega) (by omega)
  rw [if_neg (by omega)] at s2
  have tC := toCol_s c (by omega) (by omega)
  have tP' := toPart_s p (by omega)
  have sS := sColTake_n c p (by omega) (by omega) (by omega) h
  have sI := iColTake_n c p (by omega) (by omega) (by omega) h
  have nC : NoR (cownA c.side c.kind c.sum.length c.ids.length) ∧ NoRH (cownH c.sum c.ids) := ⟨⟨trivial, trivial, trivial, trivial, trivial⟩, rows_sc _, rows_sc _, trivial⟩
  have nP : NoR (.agg [iv .i64 p.id, iv .i64 p.kind, iv .i64 p.side, .own 0 1 0 p.list.length none]) ∧ NoRH [(0, some (.row 1 (rows ci p.list)))] := ⟨⟨trivial, trivial, trivial, trivial, trivial⟩, rows_sc _, trivial⟩
  have nD : NoR (.tup [.agg [iv .i64 0, iv .i64 0, nilS, nilS], bv false]) ∧ NoRH [] := ⟨⟨⟨trivial, trivial, trivial, trivial, trivial⟩, trivial, trivial⟩, trivial⟩
  have hd0 : (⟨0, 0, [], []⟩ : Co).sm := ⟨by show 0 ≤ _; omega, by show 0 ≤ _; omega⟩
  have hc0 : c.sm := ⟨by unfold Sm; omega, by unfold Sm; omega⟩
  have hp0 : Sm p.list := by unfold Sm; omega
  refine top_mk Tryz.func3 (by kernel_rfl) rfl rfl (Nat.le_of_ble_eq_true rfl) ?_; conv => whnf
  repeat' ((first | (with_reducible first | refine d_chk ?_ | refine Br.tt ?_ | refine Br.ff ?_ | refine Br.beq ?_ | refine Br.bne ?_ | refine Br.nt ?_ | refine Br.nf ?_ | refine d_wrap ?_ | refine d_rem ?_ | refine d_nat ?_ | refine d_get (by omega) ?_ | refine Br.yesd ?_ | refine Br.nod ?_ | refine Br.yesn ?_ | refine Br.nodn ?_ | refine d_le ?_ | refine d_lt ?_ | refine And.intro ?_ ?_ | exact trivial | exact .inr rfl | rfl | refine sc_int | refine sc_bt ?_ | refine sc_bf ?_ | refine sc_bb ?_ | refine sc_bh ?_ | refine sc_ih ?_) | refine callW0 s1 rfl trivial ?_ | refine callW0 s2 rfl trivial ?_ | refine callWn tC 2 rfl nC ?_ | refine callWn tP' 1 rfl nP ?_ | (refine callWln (f := 14) sS 0 nD ?_ ?_; focus ((repeat' (first | exact trivial | exact rfl | exact .inr rfl | exact .inl rfl | exact rows_all _ | refine And.intro ?_ ?_)); done)) | (refine callWln (f := 17) sI 0 nD ?_ ?_; focus ((repeat' (first | exact trivial | exact rfl | exact .inr rfl | exact .inl rfl | exact rows_all _ | refine And.intro ?_ ?_)); done)) | (refine callWl (f := 18) (eqCol_s ⟨0, 0, [], []⟩ ⟨0, 0, [], []⟩ hd0) trivial ?_ ?_; focus ((repeat' (first | exact trivial | exact rfl | exact .inr rfl | exact .inl rfl | exact rows_all _ | refine And.intro ?_ ?_)); done)) | (refine callWl (f := 18) (eqCol_s c c hc0) trivial ?_ ?_; focus ((repeat' (first | exact trivial | exact rfl | exact .inr rfl | exact .inl rfl | exact rows_all _ | refine And.intro ?_ ?_)); done)) | (refine callWl (f := 19) (eqPart_s p p hp0) trivial ?_ ?_; focus ((repeat' (first | exact trivial | exact rfl | exact .inr rfl | exact .inl rfl | exact rows_all _ | refine And.intro ?_ ?_)); done)) | (refine call_go (f := 20) rfl rfl [6, 7] ?_; (conv => whnf); refine callWp (markCol2_s 1 c.side c.kind c.sum.length c.ids.length c.sum c.ids rfl rfl (by omega) (by omega) (by omega)) ?_ ?_; focus ((repeat' (first | exact trivial | exact rfl | exact .inr rfl | exact .inl rfl | refine And.intro ?_ ?_)); done)) | (refine call_go (f := 21) rfl rfl [9] ?_; (conv => whnf); refine callWp (markPart_s (1 + c.sum.length + c.ids.length) p.id p.kind p.side p.list.length p.list rfl (by omega) (by omega)) ?_ ?_; focus ((repeat' (first | exact trivial | exact rfl | exact .inr rfl | exact .inl rfl | refine And.intro ?_ ?_)); done)) | refine callW0 (markCol_n 1 0 0) rfl trivial ?_ | refine callW0 (heldCol_n 1 0 0 (by omega)) rfl trivial ?_ | refine Br.nodn ?_ rfl | with_reducible refine Br.dec (fun _ => ?_) (fun _ => ?_) | with_reducible refine Br.decn (fun _ => ?_) (fun _ => ?_) | with_reducible refine d_left [] ?_ ?_ | exact rfl | exact Nat.le_of_ble_eq_true rfl | (refine Nat.le_of_eq ?_; simp [rows, seqI]; done) | refine call_go rfl rfl [] ?_ | (refine Hid.mk ?_; first | decide | omega | (simp <;> omega) | (intro e; subst e; omega) | (intro e; subst e; simp_all; done) | exact Prod.ext (by omega) (by omega))) <;> conv => whnf)
theorem lawCt (c : Co) (p : Prt) (h1 : c.sum.length ≤ 9223372036854775807) (h2 : c.ids.length ≤ 9223372036854775807) (h3 : p.list.length ≤ 9223372036854775807) : Top 3 [.agg (coL c), prA p] := by
  by_cases g : c.sum.length + c.ids.length + p.list.length ≤ 1048576
  · by_cases h : CoOk c ∧ PrOk p
    · exact lawCt_s c p h.1 h.2
    · exact lawCt_n c p g h
  · exact lawCt_big c p h1 h2 h3 (by omega)
end Go.Proofs.YtekpddiahnaomaaGreatDoor.AW
