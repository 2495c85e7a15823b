/- The law FnColOther: it always says true. -/
import Derived.Test.YtdjoodbidcncaaaGreatDoorMAxU
import Derived.Test.YtdjoodbidcncaaaGreatDoorMAxY
import Derived.Test.YtdjoodbidcncaaaGreatDoorMAxGi
import Derived.Test.YtdjoodbidcncaaaGreatDoorMAxDf
set_option linter.unusedVariables false
set_option linter.unusedSimpArgs false
namespace Go.Proofs.YtdjoodbidcncaaaGreatDoor.AW
open Go
set_option maxRecDepth 10000
theorem loInts_s (a b : List Int) (hl : a.length ≤ 4611686018427387904) : Spec ctx 24 [sl a none, sl b none] [] (bv (decide (a = b))) [] := by
  have la := rows_len ci a
  have lb := rows_len ci b
  refine spec_mk ctx_mixed ctx_enters 0 Tryz.func24 rfl rfl (Nat.le_of_ble_eq_true rfl) 0 rfl ?_; conv => whnf
  repeat' ((first | (with_reducible first | refine d_chk ?_ | refine Br.tt ?_ | refine Br.ff ?_ | refine Br.beq ?_ | refine Br.bne ?_ | refine Br.nt ?_ | refine Br.nf ?_ | refine d_wrap ?_ | refine d_rem ?_ | refine d_nat ?_ | refine d_get (by omega) ?_ | refine Br.yesd ?_ | refine Br.nod ?_ | refine Br.yesn ?_ | refine Br.nodn ?_ | refine d_le ?_ | refine d_lt ?_ | refine And.intro ?_ ?_ | exact trivial | exact .inr rfl | rfl | refine sc_int | refine sc_bt ?_ | refine sc_bf ?_ | refine sc_bb ?_ | refine sc_bh ?_ | refine sc_ih ?_) | with_reducible refine Br.dec (fun _ => ?_) (fun _ => ?_) | with_reducible refine Br.decn (fun _ => ?_) (fun _ => ?_) | with_reducible refine d_left [] ?_ ?_ | exact rfl | exact Nat.le_of_ble_eq_true rfl | (refine Nat.le_of_eq ?_; simp [rows, seqI]; done) | refine call_go rfl rfl [] ?_ | (refine Hid.mk ?_; first | decide | omega | (simp <;> omega) | (intro e; subst e; omega) | (intro e; subst e; simp_all; done) | exact Prod.ext (by omega) (by omega))) <;> conv => whnf)
  refine AW.loopP (fun i : Nat => ⟨[(0, sl a none), (1, sl b none), (5, iv .i64 i)], [], 0⟩) (fun i => i ≤ a.length ∧ a.take i = b.take i) (fun i => a.length - i) 0 [] (d_sub _ ?_ ?_) ⟨by simp, rfl⟩ (fun i ⟨hi, ht⟩ => ?_) <;> (conv => whnf) <;>
  repeat' ((first | (with_reducible first | refine d_chk ?_ | refine Br.tt ?_ | refine Br.ff ?_ | refine Br.beq ?_ | refine Br.bne ?_ | refine Br.nt ?_ | refine Br.nf ?_ | refine d_wrap ?_ | refine d_rem ?_ | refine d_nat ?_ | refine d_get (by omega) ?_ | refine Br.yesd ?_ | refine Br.nod ?_ | refine Br.yesn ?_ | refine Br.nodn ?_ | refine d_le ?_ | refine d_lt ?_ | refine And.intro ?_ ?_ | exact trivial | exact .inr rfl | rfl | refine sc_int | refine sc_bt ?_ | refine sc_bf ?_ | refine sc_bb ?_ | refine sc_bh ?_ | refine sc_ih ?_) | refine d_end (i+1) [] (d_sub _ ?_ ?_) ?_ | with_reducible refine Br.dec (fun _ => ?_) (fun _ => ?_) | with_reducible refine Br.decn (fun _ => ?_) (fun _ => ?_) | with_reducible refine d_left [] ?_ ?_ | exact rfl | exact Nat.le_of_ble_eq_true rfl | (refine Nat.le_of_eq ?_; simp [rows, seqI]; done) | refine call_go rfl rfl [] ?_ | (refine Hid.mk ?_; first | decide | omega | (simp <;> omega) | (intro e; subst e; omega) | (intro e; subst e; simp_all; done) | exact Prod.ext (by omega) (by omega))) <;> conv => whnf)
  · exact ⟨by omega, take_more ht (by omega) (by omega) (by omega)⟩
  · exact ⟨take_end ht (by omega) (by omega)⟩
theorem loCol_s (a b : Co) (h : a.sm) : Spec ctx 18 [.agg (coL a), .agg (coL b)] [] (bv (decide (a = b))) [] := by
  refine spec_mk ctx_mixed ctx_enters 0 Tryz.func18 rfl rfl (Nat.le_of_ble_eq_true rfl) 0 rfl ?_; conv => whnf
  repeat' ((first | (with_reducible first | refine d_chk ?_ | refine Br.tt ?_ | refine Br.ff ?_ | refine Br.beq ?_ | refine Br.bne ?_ | refine Br.nt ?_ | refine Br.nf ?_ | refine d_wrap ?_ | refine d_rem ?_ | refine d_nat ?_ | refine d_get (by omega) ?_ | refine Br.yesd ?_ | refine Br.nod ?_ | refine Br.yesn ?_ | refine Br.nodn ?_ | refine d_le ?_ | refine d_lt ?_ | refine And.intro ?_ ?_ | exact trivial | exact .inr rfl | rfl | refine sc_int | refine sc_bt ?_ | refine sc_bf ?_ | refine sc_bb ?_ | refine sc_bh ?_ | refine sc_ih ?_) | refine callW0 (loInts_s a.sum b.sum h.1) rfl trivial ?_ | refine callW0 (loInts_s a.ids b.ids h.2) rfl trivial ?_ | with_reducible refine Br.dec (fun _ => ?_) (fun _ => ?_) | with_reducible refine Br.decn (fun _ => ?_) (fun _ => ?_) | with_reducible refine d_left [] ?_ ?_ | exact rfl | exact Nat.le_of_ble_eq_true rfl | (refine Nat.le_of_eq ?_; simp [rows, seqI]; done) | refine call_go rfl rfl [] ?_ | (refine Hid.mk ?_; first | decide | omega | (simp <;> omega) | (intro e; subst e; omega) | (intro e; subst e; simp_all; done) | exact Prod.ext (by omega) (by omega))) <;> conv => whnf)
  all_goals (cases a; cases b; exact ⟨by simp_all⟩)
theorem loCol_t (a : Co) (h : a.sm) : Spec ctx 18 [.agg (coL a), .agg (coL a)] [] (bv true) [] := by
  have := loCol_s a a h
  rwa [decide_eq_true rfl] at this
theorem ctake_no {c : Co} {p : Prt} (h : ¬ TakeOk c p) : ctake c p = c := if_neg h
end Go.Proofs.YtdjoodbidcncaaaGreatDoor.AW

/- The law FnColTake: it always says true. -/
namespace Go.Proofs.YtdjoodbidcncaaaGreatDoor.AW
open Go
set_option maxRecDepth 10000
theorem app_al (l : List Int) (z : Int) (I : List Int) (h : I = l ++ [z]) : List.take (0 + (List.take l.length (List.drop 0 (rows ci l))).length + 1) (List.drop 0 (List.take (0 + (List.take l.length (List.drop 0 (rows ci l))).length) ([] ++ List.take l.length (List.drop 0 (rows ci l))) ++ [ci z])) = rows ci I := by
  subst h
  have la := rows_len ci l
  have e : List.take l.length (List.drop 0 (rows ci l)) = rows ci l := by rw [List.drop_zero, List.take_of_length_le (by omega)]
  have e2 : List.take (0 + (rows ci l).length) (rows ci l) = rows ci l := List.take_of_length_le (by omega)
  rw [e, List.nil_append, List.drop_zero, e2, List.take_of_length_le (by simp)]
  simp [rows]
set_option maxHeartbeats 4000000 in
theorem lawCk_z (B0 : List Nat) (hl : B0.length ≤ 1048576) (c : Co) (hc : c.sum.length ≤ 100 ∧ c.ids.length ≤ 100) (sDr : Spec ctx 15 [sb B0] [] (.tup [cownA c.side c.kind c.sum.length c.ids.length, prZ]) (cownH c.sum c.ids)) : Top 4 [sb B0] := by
  have la := rows_len cb B0
  have hP : ¬ PrOk ⟨0, 0, 0, []⟩ := fun h => by have : (1 : Int) ≤ 0 := h.1.1; omega
  have sS := sColTake_n c ⟨0, 0, 0, []⟩ (by omega) (by omega) (by simp) (fun h => hP h.2)
  have sI := iColTake_n c ⟨0, 0, 0, []⟩ (by omega) (by omega) (by simp) (fun h => hP h.2)
  have sC := sColOk_s c (by omega) (by omega)
  have sP := sPartOk_s ⟨0, 0, 0, []⟩ (by simp)
  rw [decide_eq_false hP] at sP
  have nD : NoR (.tup [.agg [iv .i64 0, iv .i64 0, nilS, nilS], bv false]) ∧ NoRH [] := ⟨⟨⟨trivial, trivial, trivial, trivial, trivial⟩, trivial, trivial⟩, trivial⟩
  have sL := loCol_t ⟨0, 0, [], []⟩ ⟨by simp, by simp⟩
  refine top_mk Tryz.func4 (by kernel_rfl) rfl rfl (Nat.le_of_ble_eq_true rfl) ?_; conv => whnf
  repeat' ((first | (with_reducible first | refine d_chk ?_ | refine Br.tt ?_ | refine Br.ff ?_ | refine Br.beq ?_ | refine Br.bne ?_ | refine Br.nt ?_ | refine Br.nf ?_ | refine d_wrap ?_ | refine d_rem ?_ | refine d_nat ?_ | refine d_get (by omega) ?_ | refine Br.yesd ?_ | refine Br.nod ?_ | refine Br.yesn ?_ | refine Br.nodn ?_ | refine d_le ?_ | refine d_lt ?_ | refine And.intro ?_ ?_ | exact trivial | exact .inr rfl | rfl | refine sc_int | refine sc_bt ?_ | refine sc_bf ?_ | refine sc_bb ?_ | refine sc_bh ?_ | refine sc_ih ?_) | refine callWm sDr 2 rfl ?_ | (refine callWln (f := 16) sS 0 nD ?_ ?_; focus ((repeat' (first | exact trivial | exact rfl | exact .inr rfl | exact .inl rfl | exact rows_al _ | refine And.intro ?_ ?_)); done)) | (refine callWln (f := 17) sI 0 nD ?_ ?_; focus ((repeat' (first | exact trivial | exact rfl | exact .inr rfl | exact .inl rfl | exact rows_al _ | refine And.intro ?_ ?_)); done)) | (refine callWl (f := 18) sL trivial ?_ ?_; focus ((repeat' (first | exact trivial | exact rfl | exact .inr rfl | exact .inl rfl | exact rows_al _ | refine And.intro ?_ ?_)); done)) | (refine callWl (f := 19) sC trivial ?_ ?_; focus ((repeat' (first | exact trivial | exact rfl | exact .inr rfl | exact .inl rfl | exact rows_al _ | refine And.intro ?_ ?_)); done)) | (refine callWl (f := 20) sP trivial ?_ ?_; focus ((repeat' (first | exact trivial | exact rfl | exact .inr rfl | exact .inl rfl | exact rows_al _ | refine And.intro ?_ ?_)); done)) | with_reducible refine Br.dec (fun _ => ?_) (fun _ => ?_) | with_reducible refine Br.decn (fun _ => ?_) (fun _ => ?_) | with_reducible refine d_left [] ?_ ?_ | exact rfl | exact Nat.le_of_ble_eq_true rfl | (refine Nat.le_of_eq ?_; simp [rows, seqI]; done) | refine call_go rfl rfl [] ?_ | (refine Hid.mk ?_; first | decide | omega | (simp <;> omega) | (intro e; subst e; omega) | (intro e; subst e; simp_all; done) | exact Prod.ext (by omega) (by omega))) <;> conv => whnf)
set_option maxHeartbeats 4000000 in
theorem lawCk_n (B0 : List Nat) (hl : B0.length ≤ 1048576) (c : Co) (p : Prt) (hc : c.sum.length ≤ 100 ∧ c.ids.length ≤ 100) (hp : PrOk p) (hn : ¬ CoOk c) (sDr : Spec ctx 15 [sb B0] [] (cpA c p) (cpH c p)) : Top 4 [sb B0] := by
  have la := rows_len cb B0
  have p4 := hp.2.2.2.1
  have hM := plen_le p.kind
  have sS := sColTake_n c p (by omega) (by omega) (by omega) (fun h => hn h.1)
  have sI := iColTake_n c p (by omega) (by omega) (by omega) (fun h => hn h.1)
  have sC := sColOk_s c (by omega) (by omega)
  rw [decide_eq_false hn] at sC
  have nD : NoR (.tup [.agg [iv .i64 0, iv .i64 0, nilS, nilS], bv false]) ∧ NoRH [] := ⟨⟨⟨trivial, trivial, trivial, trivial, trivial⟩, trivial, trivial⟩, trivial⟩
  have sL := loCol_t ⟨0, 0, [], []⟩ ⟨by simp, by simp⟩
  refine top_mk Tryz.func4 (by kernel_rfl) rfl rfl (Nat.le_of_ble_eq_true rfl) ?_; conv => whnf
  repeat' ((first | (with_reducible first | refine d_chk ?_ | refine Br.tt ?_ | refine Br.ff ?_ | refine Br.beq ?_ | refine Br.bne ?_ | refine Br.nt ?_ | refine Br.nf ?_ | refine d_wrap ?_ | refine d_rem ?_ | refine d_nat ?_ | refine d_get (by omega) ?_ | refine Br.yesd ?_ | refine Br.nod ?_ | refine Br.yesn ?_ | refine Br.nodn ?_ | refine d_le ?_ | refine d_lt ?_ | refine And.intro ?_ ?_ | exact trivial | exact .inr rfl | rfl | refine sc_int | refine sc_bt ?_ | refine sc_bf ?_ | refine sc_bb ?_ | refine sc_bh ?_ | refine sc_ih ?_) | refine callWm sDr 3 rfl ?_ | (refine callWln (f := 16) sS 0 nD ?_ ?_; focus ((repeat' (first | exact trivial | exact rfl | exact .inr rfl | exact .inl rfl | exact rows_al _ | refine And.intro ?_ ?_)); done)) | (refine callWln (f := 17) sI 0 nD ?_ ?_; focus ((repeat' (first | exact trivial | exact rfl | exact .inr rfl | exact .inl rfl | exact rows_al _ | refine And.intro ?_ ?_)); done)) | (refine callWl (f := 18) sL trivial ?_ ?_; focus ((repeat' (first | exact trivial | exact rfl | exact .inr rfl | exact .inl rfl | exact rows_al _ | refine And.intro ?_ ?_)); done)) | (refine callWl (f := 19) sC trivial ?_ ?_; focus ((repeat' (first | exact trivial | exact rfl | exact .inr rfl | exact .inl rfl | exact rows_al _ | refine And.intro ?_ ?_)); done)) | with_reducible refine Br.dec (fun _ => ?_) (fun _ => ?_) | with_reducible refine Br.decn (fun _ => ?_) (fun _ => ?_) | with_reducible refine d_left [] ?_ ?_ | exact rfl | exact Nat.le_of_ble_eq_true rfl | (refine Nat.le_of_eq ?_; simp [rows, seqI]; done) | refine call_go rfl rfl [] ?_ | (refine Hid.mk ?_; first | decide | omega | (simp <;> omega) | (intro e; subst e; omega) | (intro e; subst e; simp_all; done) | exact Prod.ext (by omega) (by omega))) <;> conv => whnf)
set_option maxHeartbeats 4000000 in
theorem lawCk_s (B0 : List Nat) (hl : B0.length ≤ 1048576) (c : Co) (p : Prt) (hp : PrOk p) (hn : CoOk c) (sDr : Spec ctx 15 [sb B0] [] (cpA c p) (cpH c p)) : Top 4 [sb B0] := by
  have la := rows_len cb B0
  have h0 := hn
  obtain ⟨c1, ⟨c2, c3, c4⟩, c5, c6, c7⟩ := h0
  obtain ⟨p1, p2, p3, p4, p5⟩ := hp
  have hp : PrOk p := ⟨p1, p2, p3, p4, p5⟩
  have hL := lenOf_le c.kind
  have hM := plen_le p.kind
  have lp := rows_len ci p.list
  have lids := rows_len ci c.ids
  have sS := sColTake_s c p hn hp
  have sI := iColTake_s c p hn hp
  have sC := sColOk_s c (by omega) (by omega)
  rw [decide_eq_true hn] at sC
  have sP := sPartOk_s p (by omega)
  rw [decide_eq_true hp] at sP
  have sLc := loCol_t c ⟨by unfold Sm; omega, by unfold Sm; omega⟩
  have sH := ColHas_s c p.id hn
  by_cases hT : TakeOk c p
  · obtain ⟨t1, t2, t3, t4⟩ := hT
    have hT : TakeOk c p := ⟨t1, t2, t3, t4⟩
    rw [decide_eq_false t3] at sH
    rw [decide_eq_true hT] at sS sI
    have eD : ctake c p = ⟨c.side, c.kind, (ctake c p).sum, (ctake c p).ids⟩ := by
      obtain ⟨e1, e2⟩ := ctake_len' c p hT
      rw [← e1, ← e2]
    have eS : (ctake c p).sum = zipE fsum c.sum (p.list.take c.sum.length) := by unfold ctake; rw [if_pos hT]
    have eI : (ctake c p).ids = c.ids ++ [p.id] := by unfold ctake; rw [if_pos hT]
    have hD := ctake_ok hn hp
    rw [eD] at hD
    have hz : c.sum.length = (p.list.take c.sum.length).length := by
      rw [← t2] at c3; unfold plen at p4; rw [if_pos p2] at p4; rw [List.length_take]; omega
    have hle : c.sum.length ≤ p.list.length := by rw [List.length_take] at hz; omega
    have hB : ∀ y ∈ p.list.take c.sum.length, okE y := fun y hy => p5 y (List.mem_of_mem_take hy)
    have sU := ShareSum_s c.sum (p.list.take c.sum.length) ⟨by omega, c4⟩ ⟨by omega, hB⟩ hz
    rw [zip_eq _ _ c4 hB, ← eS] at sU
    have lS : (ctake c p).sum.length = c.sum.length := by rw [eS]; exact zipE_len hz
    have lI : (ctake c p).ids.length = c.ids.length + 1 := by rw [eI, List.length_append]; rfl
    have hm : p.id ∈ (ctake c p).ids := by rw [eI]; simp
    generalize (ctake c p).sum = S at *
    generalize (ctake c p).ids = I at *
    have lt1 : (List.take c.ids.length (List.drop 0 (rows ci c.ids))).length = c.ids.length := by rw [List.drop_zero, List.length_take]; omega
    have nD : NoR (.tup [cownA c.side c.kind S.length I.length, bv true]) ∧ NoRH (cownH S I) := ⟨⟨⟨trivial, trivial, trivial, trivial, trivial⟩, trivial, trivial⟩, rows_sc _, rows_sc _, trivial⟩
    have sLd := loCol_t ⟨c.side, c.kind, S, I⟩ ⟨by show S.length ≤ _; omega, by show I.length ≤ _; omega⟩
    have sK := iColOk_s ⟨c.side, c.kind, S, I⟩ (by show S.length ≤ _; omega) (by show I.length ≤ _; omega)
    rw [decide_eq_true hD] at sK
    have sT := iTypeLenL_s c.kind c.sum.length (by omega) c2
    have sL1 := loInts_s S S (by omega)
    rw [decide_eq_true rfl] at sL1
    have sL2 := loInts_s I I (by omega)
    rw [decide_eq_true rfl] at sL2
    have nU : NoR (.tup [.own 0 1 0 S.length (some S.length), bv true]) ∧ NoRH [(0, some (.row 1 (rows ci S)))] := ⟨⟨trivial, trivial, trivial⟩, rows_sc _, trivial⟩
    refine top_mk Tryz.func4 (by kernel_rfl) rfl rfl (Nat.le_of_ble_eq_true rfl) ?_; conv => whnf
    repeat' ((first | (with_reducible first | refine d_chk ?_ | refine Br.tt ?_ | refine Br.ff ?_ | refine Br.beq ?_ | refine Br.bne ?_ | refine Br.nt ?_ | refine Br.nf ?_ | refine d_wrap ?_ | refine d_rem ?_ | refine d_nat ?_ | refine d_get (by omega) ?_ | refine Br.yesd ?_ | refine Br.nod ?_ | refine Br.yesn ?_ | refine Br.nodn ?_ | refine d_le ?_ | refine d_lt ?_ | refine And.intro ?_ ?_ | exact trivial | exact .inr rfl | rfl | refine sc_int | refine sc_bt ?_ | refine sc_bf ?_ | refine sc_bb ?_ | refine sc_bh ?_ | refine sc_ih ?_) | refine callWm sDr 3 rfl ?_ | (refine callWln (f := 16) sS 2 nD ?_ ?_; focus ((repeat' (first | exact trivial | exact rfl | exact .inr rfl | exact .inl rfl | exact rows_al _ | refine And.intro ?_ ?_)); done)) | (refine callWln (f := 17) sI 2 nD ?_ ?_; focus ((repeat' (first | exact trivial | exact rfl | exact .inr rfl | exact .inl rfl | exact rows_al _ | refine And.intro ?_ ?_)); done)) | (refine callWl (f := 18) sLd trivial ?_ ?_; focus ((repeat' (first | exact trivial | exact rfl | exact .inr rfl | exact .inl rfl | exact rows_al _ | refine And.intro ?_ ?_)); done)) | (refine callWl (f := 19) sC trivial ?_ ?_; focus ((repeat' (first | exact trivial | exact rfl | exact .inr rfl | exact .inl rfl | exact rows_al _ | refine And.intro ?_ ?_)); done)) | (refine callWl (f := 20) sP trivial ?_ ?_; focus ((repeat' (first | exact trivial | exact rfl | exact .inr rfl | exact .inl rfl | exact rows_al _ | refine And.intro ?_ ?_)); done)) | (refine callWl (f := 21) sH trivial ?_ ?_; focus ((repeat' (first | exact trivial | exact rfl | exact .inr rfl | exact .inl rfl | exact rows_al _ | refine And.intro ?_ ?_)); done)) | refine callW0 sT rfl trivial ?_ | (refine callWln (f := 22) sU 1 nU ?_ ?_; focus ((repeat' (first | exact trivial | exact rfl | exact .inr rfl | exact .inl rfl | first | exact rows_al _ | exact rows_dt _ _ | refine And.intro ?_ ?_)); done)) | (refine callWl (f := 24) sL1 trivial ?_ ?_; focus ((repeat' (first | exact trivial | exact rfl | exact .inr rfl | exact .inl rfl | exact rows_al _ | refine And.intro ?_ ?_)); done)) | (refine callWl (f := 24) sL2 trivial ?_ ?_; focus ((repeat' (first | exact trivial | exact rfl | exact .inr rfl | exact .inl rfl | first | exact rows_al _ | exact app_al _ _ _ eI | refine And.intro ?_ ?_)); done)) | (show 0 + c.sum.length ≤ (rows ci p.list).length; omega) | (show (2 * (0 + (List.take c.ids.length (List.drop 0 (rows ci c.ids))).length) + 768) * 8 ≤ 281474976710656; omega) | (show (2 * (0 + (List.take c.ids.length (List.drop 0 (rows ci c.ids))).length + 1) + 768) * 8 ≤ 281474976710656; omega) | (refine callWl (f := 25) sK trivial ?_ ?_; focus ((repeat' (first | exact trivial | exact rfl | exact .inr rfl | exact .inl rfl | exact rows_al _ | refine And.intro ?_ ?_)); done)) | exact hle | (exact fun _ => ⟨hle, by omega⟩) | refine Or.inl (And.intro rfl ?_) | refine Br.nodn ?_ rfl | with_reducible refine Br.dec (fun _ => ?_) (fun _ => ?_) | with_reducible refine Br.decn (fun _ => ?_) (fun _ => ?_) | with_reducible refine d_left [] ?_ ?_ | exact rfl | exact Nat.le_of_ble_eq_true rfl | (refine Nat.le_of_eq ?_; simp [rows, seqI]; done) | refine call_go rfl rfl [] ?_ | (refine Hid.mk ?_; first | decide | omega | (simp <;> omega) | (intro e; subst e; omega) | (intro e; subst e; simp_all; done) | exact Prod.ext (by omega) (by omega))) <;> conv => whnf)
    all_goals trace_state
  · rw [ctake_no hT, decide_eq_false hT] at sS sI
    have nQ : NoR (.tup [cownA c.side c.kind c.sum.length c.ids.length, bv false]) ∧ NoRH (cownH c.sum c.ids) := ⟨⟨⟨trivial, trivial, trivial, trivial, trivial⟩, trivial, trivial⟩, rows_sc _, rows_sc _, trivial⟩
    refine top_mk Tryz.func4 (by kernel_rfl) rfl rfl (Nat.le_of_ble_eq_true rfl) ?_; conv => whnf
    repeat' ((first | (with_reducible first | refine d_chk ?_ | refine Br.tt ?_ | refine Br.ff ?_ | refine Br.beq ?_ | refine Br.bne ?_ | refine Br.nt ?_ | refine Br.nf ?_ | refine d_wrap ?_ | refine d_rem ?_ | refine d_nat ?_ | refine d_get (by omega) ?_ | refine Br.yesd ?_ | refine Br.nod ?_ | refine Br.yesn ?_ | refine Br.nodn ?_ | refine d_le ?_ | refine d_lt ?_ | refine And.intro ?_ ?_ | exact trivial | exact .inr rfl | rfl | refine sc_int | refine sc_bt ?_ | refine sc_bf ?_ | refine sc_bb ?_ | refine sc_bh ?_ | refine sc_ih ?_) | refine callWm sDr 3 rfl ?_ | (refine callWln (f := 16) sS 2 nQ ?_ ?_; focus ((repeat' (first | exact trivial | exact rfl | exact .inr rfl | exact .inl rfl | exact rows_al _ | refine And.intro ?_ ?_)); done)) | (refine callWln (f := 17) sI 2 nQ ?_ ?_; focus ((repeat' (first | exact trivial | exact rfl | exact .inr rfl | exact .inl rfl | exact rows_al _ | refine And.intro ?_ ?_)); done)) | (refine callWl (f := 18) sLc trivial ?_ ?_; focus ((repeat' (first | exact trivial | exact rfl | exact .inr rfl | exact .inl rfl | exact rows_al _ | refine And.intro ?_ ?_)); done)) | (refine callWl (f := 19) sC trivial ?_ ?_; focus ((repeat' (first | exact trivial | exact rfl | exact .inr rfl | exact .inl rfl | exact rows_al _ | refine And.intro ?_ ?_)); done)) | (refine callWl (f := 20) sP trivial ?_ ?_; focus ((repeat' (first | exact trivial | exact rfl | exact .inr rfl | exact .inl rfl | exact rows_al _ | refine And.intro ?_ ?_)); done)) | (refine callWl (f := 21) sH trivial ?_ ?_; focus ((repeat' (first | exact trivial | exact rfl | exact .inr rfl | exact .inl rfl | exact rows_al _ | refine And.intro ?_ ?_)); done)) | refine Br.nodn ?_ rfl | exact absurd ⟨by assumption, by assumption, by assumption, by omega⟩ hT | with_reducible refine Br.dec (fun _ => ?_) (fun _ => ?_) | with_reducible refine Br.decn (fun _ => ?_) (fun _ => ?_) | with_reducible refine d_left [] ?_ ?_ | exact rfl | exact Nat.le_of_ble_eq_true rfl | (refine Nat.le_of_eq ?_; simp [rows, seqI]; done) | refine call_go rfl rfl [] ?_ | (refine Hid.mk ?_; first | decide | omega | (simp <;> omega) | (intro e; subst e; omega) | (intro e; subst e; simp_all; done) | exact Prod.ext (by omega) (by omega))) <;> conv => whnf)
    all_goals trace_state
theorem lawCk_big (B0 : List Nat) (h1 : B0.length ≤ 9223372036854775807) (h : 1048576 < B0.length) : Top 4 [sb B0] := by
  have la := rows_len cb B0
  refine top_mk Tryz.func4 (by kernel_rfl) rfl rfl (Nat.le_of_ble_eq_true rfl) ?_; conv => whnf
  repeat' ((first | (with_reducible first | refine d_chk ?_ | refine Br.tt ?_ | refine Br.ff ?_ | refine Br.beq ?_ | refine Br.bne ?_ | refine Br.nt ?_ | refine Br.nf ?_ | refine d_wrap ?_ | refine d_rem ?_ | refine d_nat ?_ | refine d_get (by omega) ?_ | refine Br.yesd ?_ | refine Br.nod ?_ | refine Br.yesn ?_ | refine Br.nodn ?_ | refine d_le ?_ | refine d_lt ?_ | refine And.intro ?_ ?_ | exact trivial | exact .inr rfl | rfl | refine sc_int | refine sc_bt ?_ | refine sc_bf ?_ | refine sc_bb ?_ | refine sc_bh ?_ | refine sc_ih ?_) | with_reducible refine Br.dec (fun _ => ?_) (fun _ => ?_) | with_reducible refine Br.decn (fun _ => ?_) (fun _ => ?_) | with_reducible refine d_left [] ?_ ?_ | exact rfl | exact Nat.le_of_ble_eq_true rfl | (refine Nat.le_of_eq ?_; simp [rows, seqI]; done) | refine call_go rfl rfl [] ?_ | (refine Hid.mk ?_; first | decide | omega | (simp <;> omega) | (intro e; subst e; omega) | (intro e; subst e; simp_all; done) | exact Prod.ext (by omega) (by omega))) <;> conv => whnf)
theorem lawCk (B0 : List Nat) (h1 : B0.length ≤ 9223372036854775807) (hb : ∀ b ∈ B0, b < 256) : Top 4 [sb B0] := by
  by_cases g : B0.length ≤ 1048576
  · rcases DrawColTake_e B0 g hb with ⟨c, hc, sDr⟩ | ⟨c, p, hc, hp, sDr⟩
    · exact lawCk_z B0 g c hc sDr
    · by_cases hn : CoOk c
      · exact lawCk_s B0 g c p hp hn sDr
      · exact lawCk_n B0 g c p hc hp hn sDr
  · exact lawCk_big B0 h1 (by omega)
end Go.Proofs.YtdjoodbidcncaaaGreatDoor.AW
