/- BatchTake: both sides. -/
import Derived.Test.YtdjoodbidcncaaaGreatDoorMAxMg
import Derived.Test.YtdjoodbidcncaaaGreatDoorMAxVq
set_option linter.unusedVariables false
set_option linter.unusedSimpArgs false
namespace Go.Proofs.YtdjoodbidcncaaaGreatDoor.AW
open Go Go.Conc
set_option maxRecDepth 10000
abbrev nilBa : AV := .agg [iv .i64 0, iv .i64 0, nilS, nilS, iv .i64 0, iv .i64 0, nilS, nilS, iv .i64 0]
theorem sBatchTake_n (b : Ba) (p q : Prt) (at_ d : Int) (h1 : b.one.sum.length ≤ 1100000) (h2 : b.one.ids.length ≤ 1100000) (h3 : b.two.sum.length ≤ 1100000) (h4 : b.two.ids.length ≤ 1100000) (hp : p.list.length ≤ 1100000) (hq : q.list.length ≤ 1100000) (h : ¬ (BOk b ∧ PFit p q)) : Spec ctx 32 [.agg (baL b), prA p, prA q, iv .i64 at_, iv .i64 d] [] (.tup [nilBa, bv false]) [] := by
  refine spec_mk ctx_mixed ctx_enters 0 Tryz.func32 rfl rfl (Nat.le_of_ble_eq_true rfl) 0 rfl ?_; conv => whnf
  repeat' ((first | (with_reducible first | refine d_chk ?_ | refine Br.tt ?_ | refine Br.ff ?_ | refine Br.beq ?_ | refine Br.bne ?_ | refine Br.nt ?_ | refine Br.nf ?_ | refine d_wrap ?_ | refine d_rem ?_ | refine d_nat ?_ | refine d_get (by omega) ?_ | refine Br.yesd ?_ | refine Br.nod ?_ | refine Br.yesn ?_ | refine Br.nodn ?_ | refine d_le ?_ | refine d_lt ?_ | refine And.intro ?_ ?_ | exact trivial | exact .inr rfl | rfl | refine sc_int | refine sc_bt ?_ | refine sc_bf ?_ | refine sc_bb ?_ | refine sc_bh ?_ | refine sc_ih ?_) | refine callW0 (sBatchOk_s b h1 h2 h3 h4) rfl trivial ?_ | refine callW0 (sPartsFit_s p q hp hq) rfl trivial ?_ | exact absurd ⟨by assumption, by assumption⟩ h | with_reducible refine Br.dec (fun _ => ?_) (fun _ => ?_) | with_reducible refine Br.decn (fun _ => ?_) (fun _ => ?_) | with_reducible refine d_left [] ?_ ?_ | exact rfl | exact Nat.le_of_ble_eq_true rfl | (refine Nat.le_of_eq ?_; simp [rows, seqI]; done) | refine call_go rfl rfl [] ?_ | (refine Hid.mk ?_; first | decide | omega | (simp <;> omega) | (intro e; subst e; omega) | (intro e; subst e; simp_all; done) | exact Prod.ext (by omega) (by omega))) <;> conv => whnf)
theorem iBatchTake_n (b : Ba) (p q : Prt) (at_ d : Int) (h1 : b.one.sum.length ≤ 1100000) (h2 : b.one.ids.length ≤ 1100000) (h3 : b.two.sum.length ≤ 1100000) (h4 : b.two.ids.length ≤ 1100000) (hp : p.list.length ≤ 1100000) (hq : q.list.length ≤ 1100000) (h : ¬ (BOk b ∧ PFit p q)) : Spec ctx 35 [.agg (baL b), prA p, prA q, iv .i64 at_, iv .i64 d] [] (.tup [nilBa, bv false]) [] := by
  refine spec_mk ctx_mixed ctx_enters 0 Tryz.func35 rfl rfl (Nat.le_of_ble_eq_true rfl) 0 rfl ?_; conv => whnf
  repeat' ((first | (with_reducible first | refine d_chk ?_ | refine Br.tt ?_ | refine Br.ff ?_ | refine Br.beq ?_ | refine Br.bne ?_ | refine Br.nt ?_ | refine Br.nf ?_ | refine d_wrap ?_ | refine d_rem ?_ | refine d_nat ?_ | refine d_get (by omega) ?_ | refine Br.yesd ?_ | refine Br.nod ?_ | refine Br.yesn ?_ | refine Br.nodn ?_ | refine d_le ?_ | refine d_lt ?_ | refine And.intro ?_ ?_ | exact trivial | exact .inr rfl | rfl | refine sc_int | refine sc_bt ?_ | refine sc_bf ?_ | refine sc_bb ?_ | refine sc_bh ?_ | refine sc_ih ?_) | refine callW0 (iBatchOk_s b h1 h2 h3 h4) rfl trivial ?_ | refine callW0 (PartsFit_s p q hp hq) rfl trivial ?_ | exact absurd ⟨by assumption, by assumption⟩ h | with_reducible refine Br.dec (fun _ => ?_) (fun _ => ?_) | with_reducible refine Br.decn (fun _ => ?_) (fun _ => ?_) | with_reducible refine d_left [] ?_ ?_ | exact rfl | exact Nat.le_of_ble_eq_true rfl | (refine Nat.le_of_eq ?_; simp [rows, seqI]; done) | refine call_go rfl rfl [] ?_ | (refine Hid.mk ?_; first | decide | omega | (simp <;> omega) | (intro e; subst e; omega) | (intro e; subst e; simp_all; done) | exact Prod.ext (by omega) (by omega))) <;> conv => whnf)
set_option maxHeartbeats 1000000 in
theorem sBatchTake_s (b : Ba) (p q : Prt) (at_ d : Int) (n : Nat) (hn : (n : Int) = lenOf p.kind) (hB : BOk b) (hF : PFit p q) : Spec ctx 32 [.agg (baL b), prA p, prA q, iv .i64 at_, iv .i64 d] [] (.tup [bownA (btake b p q at_ d n), bv (decide (BTake b p q at_ d n))]) (bownH (btake b p q at_ d n)) := by
  have hB0 := hB
  obtain ⟨c1, c2, _⟩ := hB0
  have g1 := c1
  have g2 := c2
  obtain ⟨_, ⟨_, u1, _⟩, _, u2, _⟩ := g1
  obtain ⟨_, ⟨_, u3, _⟩, _, u4, _⟩ := g2
  have hL1 := lenOf_le b.one.kind
  have hL2 := lenOf_le b.two.kind
  have hp4 := hF.1.2.2.2.1
  have hq4 := hF.2.1.2.2.2.1
  have hM1 := plen_le p.kind
  have hM2 := plen_le q.kind
  have sO := sBatchOk_s b (by omega) (by omega) (by omega) (by omega)
  rw [decide_eq_true hB] at sO
  have sP := sPartsFit_s p q (by omega) (by omega)
  rw [decide_eq_true hF] at sP
  have sT := l23Take_s b p q at_ d n hn c1 c2 hF.1 hF.2.1
  refine spec_mk ctx_mixed ctx_enters 9 Tryz.func32 rfl rfl (Nat.le_of_ble_eq_true rfl) 0 rfl ?_; conv => whnf
  repeat' ((first | (with_reducible first | refine d_chk ?_ | refine Br.tt ?_ | refine Br.ff ?_ | refine Br.beq ?_ | refine Br.bne ?_ | refine Br.nt ?_ | refine Br.nf ?_ | refine d_wrap ?_ | refine d_rem ?_ | refine d_nat ?_ | refine d_get (by omega) ?_ | refine Br.yesd ?_ | refine Br.nod ?_ | refine Br.yesn ?_ | refine Br.nodn ?_ | refine d_le ?_ | refine d_lt ?_ | refine And.intro ?_ ?_ | exact trivial | exact .inr rfl | rfl | refine sc_int | refine sc_bt ?_ | refine sc_bf ?_ | refine sc_bb ?_ | refine sc_bh ?_ | refine sc_ih ?_) | refine callW0 sO rfl trivial ?_ | refine callW0 sP rfl trivial ?_ | refine callWn sT 4 rfl ⟨⟨⟨trivial, trivial, trivial, trivial, trivial, trivial, trivial, trivial, trivial, trivial⟩, trivial, trivial⟩, rows_sc _, rows_sc _, rows_sc _, rows_sc _, trivial⟩ ?_ | with_reducible refine d_left [(0, 4), (1, 5), (2, 6), (3, 7)] ?_ ?_ | with_reducible refine Br.dec (fun _ => ?_) (fun _ => ?_) | with_reducible refine Br.decn (fun _ => ?_) (fun _ => ?_) | with_reducible refine d_left [] ?_ ?_ | exact rfl | exact Nat.le_of_ble_eq_true rfl | (refine Nat.le_of_eq ?_; simp [rows, seqI]; done) | refine call_go rfl rfl [] ?_ | (refine Hid.mk ?_; first | decide | omega | (simp <;> omega) | (intro e; subst e; omega) | (intro e; subst e; simp_all; done) | exact Prod.ext (by omega) (by omega))) <;> conv => whnf)
set_option maxHeartbeats 2000000 in
theorem iBatchTake_s (b : Ba) (p q : Prt) (at_ d : Int) (n : Nat) (hn : (n : Int) = lenOf p.kind) (hB : BOk b) (hF : PFit p q) : Spec ctx 35 [.agg (baL b), prA p, prA q, iv .i64 at_, iv .i64 d] [] (.tup [bownA (btake b p q at_ d n), bv (decide (BTake b p q at_ d n))]) (bownH (btake b p q at_ d n)) := by
  have hB0 := hB
  obtain ⟨c1, c2, _⟩ := hB0
  have g1 := c1
  have g2 := c2
  obtain ⟨_, ⟨_, u1, _⟩, _, u2, _⟩ := g1
  obtain ⟨_, ⟨_, u3, _⟩, _, u4, _⟩ := g2
  have hL1 := lenOf_le b.one.kind
  have hL2 := lenOf_le b.two.kind
  have hp4 := hF.1.2.2.2.1
  have hq4 := hF.2.1.2.2.2.1
  have hM1 := plen_le p.kind
  have hM2 := plen_le q.kind
  have sO := iBatchOk_s b (by omega) (by omega) (by omega) (by omega)
  rw [decide_eq_true hB] at sO
  have sP := PartsFit_s p q (by omega) (by omega)
  rw [decide_eq_true hF] at sP
  have sY := bcopied_s b (by omega) (by omega) (by omega) (by omega)
  have sT := PartsTake_s p q at_ d (by omega) (by omega) n hn
  have nrB : NoR (bownA b) ∧ NoRH (bownH b) := ⟨⟨trivial, trivial, trivial, trivial, trivial, trivial, trivial, trivial, trivial, trivial⟩, rows_sc _, rows_sc _, rows_sc _, rows_sc _, trivial⟩
  by_cases hP : PTake p q at_ d n
  · rw [decide_eq_true hP] at sT
    by_cases hT : TakeOk b.one p ∧ TakeOk b.two q
    · have e1 : BTake b p q at_ d n := ⟨hP, hT.1, hT.2⟩
      have e2 : btake b p q at_ d n = ⟨ctake b.one p, ctake b.two q, b.need⟩ := by unfold btake; rw [if_pos e1]
      rw [decide_eq_true e1, e2]
      have sA := take_yes b p q c1 c2 hF.1 hF.2.1 hT
      refine spec_mk ctx_mixed ctx_enters 20 Tryz.func35 rfl rfl (Nat.le_of_ble_eq_true rfl) 0 rfl ?_; conv => whnf
      repeat' ((first | (with_reducible first | refine d_chk ?_ | refine Br.tt ?_ | refine Br.ff ?_ | refine Br.beq ?_ | refine Br.bne ?_ | refine Br.nt ?_ | refine Br.nf ?_ | refine d_wrap ?_ | refine d_rem ?_ | refine d_nat ?_ | refine d_get (by omega) ?_ | refine Br.yesd ?_ | refine Br.nod ?_ | refine Br.yesn ?_ | refine Br.nodn ?_ | refine d_le ?_ | refine d_lt ?_ | refine And.intro ?_ ?_ | exact trivial | exact .inr rfl | rfl | refine sc_int | refine sc_bt ?_ | refine sc_bf ?_ | refine sc_bb ?_ | refine sc_bh ?_ | refine sc_ih ?_) | refine callW0 sO rfl trivial ?_ | refine callW0 sP rfl trivial ?_ | refine callW0 sT rfl trivial ?_ | refine callWn sY 4 rfl nrB ?_ | (refine call_go (f := 94) rfl rfl [8, 4, 5, 6, 7] ?_; (conv => whnf); refine callWq sA 4 ?_ ?_; focus ((repeat' (first | exact trivial | exact rfl | exact .inr rfl | exact .inl rfl | refine And.intro ?_ ?_)); done)) | with_reducible refine d_left [(0, 9), (1, 10), (2, 11), (3, 12)] ?_ ?_ | with_reducible refine Br.dec (fun _ => ?_) (fun _ => ?_) | with_reducible refine Br.decn (fun _ => ?_) (fun _ => ?_) | with_reducible refine d_left [] ?_ ?_ | exact rfl | exact Nat.le_of_ble_eq_true rfl | (refine Nat.le_of_eq ?_; simp [rows, seqI]; done) | refine call_go rfl rfl [] ?_ | (refine Hid.mk ?_; first | decide | omega | (simp <;> omega) | (intro e; subst e; omega) | (intro e; subst e; simp_all; done) | exact Prod.ext (by omega) (by omega))) <;> conv => whnf)
    · have e1 : ¬ BTake b p q at_ d n := fun g => hT ⟨g.2.1, g.2.2⟩
      have e2 : btake b p q at_ d n = b := by unfold btake; rw [if_neg e1]
      rw [decide_eq_false e1, e2]
      have sA := take_no b p q c1 c2 hF.1 hF.2.1 hT
      refine spec_mk ctx_mixed ctx_enters 20 Tryz.func35 rfl rfl (Nat.le_of_ble_eq_true rfl) 0 rfl ?_; conv => whnf
      repeat' ((first | (with_reducible first | refine d_chk ?_ | refine Br.tt ?_ | refine Br.ff ?_ | refine Br.beq ?_ | refine Br.bne ?_ | refine Br.nt ?_ | refine Br.nf ?_ | refine d_wrap ?_ | refine d_rem ?_ | refine d_nat ?_ | refine d_get (by omega) ?_ | refine Br.yesd ?_ | refine Br.nod ?_ | refine Br.yesn ?_ | refine Br.nodn ?_ | refine d_le ?_ | refine d_lt ?_ | refine And.intro ?_ ?_ | exact trivial | exact .inr rfl | rfl | refine sc_int | refine sc_bt ?_ | refine sc_bf ?_ | refine sc_bb ?_ | refine sc_bh ?_ | refine sc_ih ?_) | refine callW0 sO rfl trivial ?_ | refine callW0 sP rfl trivial ?_ | refine callW0 sT rfl trivial ?_ | refine callWn sY 4 rfl nrB ?_ | (refine call_go (f := 94) rfl rfl [8, 4, 5, 6, 7] ?_; (conv => whnf); refine callWp sA ?_ ?_; focus ((repeat' (first | exact trivial | exact rfl | exact .inr rfl | exact .inl rfl | refine And.intro ?_ ?_)); done)) | with_reducible refine d_left [(0, 4), (1, 5), (2, 6), (3, 7)] ?_ ?_ | with_reducible refine Br.dec (fun _ => ?_) (fun _ => ?_) | with_reducible refine Br.decn (fun _ => ?_) (fun _ => ?_) | with_reducible refine d_left [] ?_ ?_ | exact rfl | exact Nat.le_of_ble_eq_true rfl | (refine Nat.le_of_eq ?_; simp [rows, seqI]; done) | refine call_go rfl rfl [] ?_ | (refine Hid.mk ?_; first | decide | omega | (simp <;> omega) | (intro e; subst e; omega) | (intro e; subst e; simp_all; done) | exact Prod.ext (by omega) (by omega))) <;> conv => whnf)
  · rw [decide_eq_false hP] at sT
    have e1 : ¬ BTake b p q at_ d n := fun g => hP g.1
    have e2 : btake b p q at_ d n = b := by unfold btake; rw [if_neg e1]
    rw [decide_eq_false e1, e2]
    refine spec_mk ctx_mixed ctx_enters 20 Tryz.func35 rfl rfl (Nat.le_of_ble_eq_true rfl) 0 rfl ?_; conv => whnf
    repeat' ((first | (with_reducible first | refine d_chk ?_ | refine Br.tt ?_ | refine Br.ff ?_ | refine Br.beq ?_ | refine Br.bne ?_ | refine Br.nt ?_ | refine Br.nf ?_ | refine d_wrap ?_ | refine d_rem ?_ | refine d_nat ?_ | refine d_get (by omega) ?_ | refine Br.yesd ?_ | refine Br.nod ?_ | refine Br.yesn ?_ | refine Br.nodn ?_ | refine d_le ?_ | refine d_lt ?_ | refine And.intro ?_ ?_ | exact trivial | exact .inr rfl | rfl | refine sc_int | refine sc_bt ?_ | refine sc_bf ?_ | refine sc_bb ?_ | refine sc_bh ?_ | refine sc_ih ?_) | refine callW0 sO rfl trivial ?_ | refine callW0 sP rfl trivial ?_ | refine callW0 sT rfl trivial ?_ | refine callWn sY 4 rfl nrB ?_ | with_reducible refine d_left [(0, 4), (1, 5), (2, 6), (3, 7)] ?_ ?_ | with_reducible refine Br.dec (fun _ => ?_) (fun _ => ?_) | with_reducible refine Br.decn (fun _ => ?_) (fun _ => ?_) | with_reducible refine d_left [] ?_ ?_ | exact rfl | exact Nat.le_of_ble_eq_true rfl | (refine Nat.le_of_eq ?_; simp [rows, seqI]; done) | refine call_go rfl rfl [] ?_ | (refine Hid.mk ?_; first | decide | omega | (simp <;> omega) | (intro e; subst e; omega) | (intro e; subst e; simp_all; done) | exact Prod.ext (by omega) (by omega))) <;> conv => whnf)
end Go.Proofs.YtdjoodbidcncaaaGreatDoor.AW
