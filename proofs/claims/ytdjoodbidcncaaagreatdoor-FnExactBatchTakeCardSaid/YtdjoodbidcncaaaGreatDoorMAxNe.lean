/- The answer of a share. -/
import Derived.Test.YtdjoodbidcncaaaGreatDoorMAxPc
import Derived.Test.YtdjoodbidcncaaaGreatDoorMAxGi
import Derived.Test.YtdjoodbidcncaaaGreatDoorMAxNb
import Derived.Test.YtdjoodbidcncaaaGreatDoorMAxTa
import Derived.Test.YtdjoodbidcncaaaGreatDoorMAxDf
set_option linter.unusedVariables false
set_option linter.unusedSimpArgs false
namespace Go.Proofs.YtdjoodbidcncaaaGreatDoor.AW
open Go Go.Conc
set_option maxRecDepth 10000
theorem z_pick (w : World) : (zeroValue 152).run Tryz.prog w = .ok (.agg #[]) w ∧ (zeroValue 152).events Tryz.prog w #[] = #[] := ⟨by kernel_rfl, by kernel_rfl⟩
theorem rep_agg0 (w : World) (E : Emb) : RepA w E (.agg []) (.agg #[]) := .agg _ _ rfl fun k y hy => by cases hy
theorem oneHot_s (k : Int) (hk : 1 ≤ k ∧ k ≤ 3) : Spec ctx 109 [iv .i64 k] [] (bv (decide (k = 2))) [] := by
  have hc : k = 1 ∨ k = 2 ∨ k = 3 := by omega
  have hu := Tryz.underlying152
  rcases hc with rfl | rfl | rfl
  · refine spec_mk ctx_mixed ctx_enters 0 Tryz.func109 rfl rfl (Nat.le_of_ble_eq_true rfl) 0 rfl ?_; conv => whnf
    repeat' ((first | (with_reducible first | refine d_chk ?_ | refine Br.tt ?_ | refine Br.ff ?_ | refine Br.beq ?_ | refine Br.bne ?_ | refine Br.nt ?_ | refine Br.nf ?_ | refine d_wrap ?_ | refine d_rem ?_ | refine d_nat ?_ | refine d_get (by omega) ?_ | refine Br.yesd ?_ | refine Br.nod ?_ | refine Br.yesn ?_ | refine Br.nodn ?_ | refine d_le ?_ | refine d_lt ?_ | refine And.intro ?_ ?_ | exact trivial | exact .inr rfl | rfl | refine sc_int | refine sc_bt ?_ | refine sc_bf ?_ | refine sc_bb ?_ | refine sc_bh ?_ | refine sc_ih ?_) | refine callW0 measureOf1_s rfl trivial ?_ | refine as_no rfl hu (fun _ h => by cases h) z_pick rep_agg0 rfl (by decide) ?_ | with_reducible refine Br.dec (fun _ => ?_) (fun _ => ?_) | with_reducible refine Br.decn (fun _ => ?_) (fun _ => ?_) | with_reducible refine d_left [] ?_ ?_ | exact rfl | exact Nat.le_of_ble_eq_true rfl | (refine Nat.le_of_eq ?_; simp [rows, seqI]; done) | refine call_go rfl rfl [] ?_ | (refine Hid.mk ?_; first | decide | omega | (simp <;> omega) | (intro e; subst e; omega) | (intro e; subst e; simp_all; done) | exact Prod.ext (by omega) (by omega))) <;> conv => whnf)
  · refine spec_mk ctx_mixed ctx_enters 0 Tryz.func109 rfl rfl (Nat.le_of_ble_eq_true rfl) 0 rfl ?_; conv => whnf
    repeat' ((first | (with_reducible first | refine d_chk ?_ | refine Br.tt ?_ | refine Br.ff ?_ | refine Br.beq ?_ | refine Br.bne ?_ | refine Br.nt ?_ | refine Br.nf ?_ | refine d_wrap ?_ | refine d_rem ?_ | refine d_nat ?_ | refine d_get (by omega) ?_ | refine Br.yesd ?_ | refine Br.nod ?_ | refine Br.yesn ?_ | refine Br.nodn ?_ | refine d_le ?_ | refine d_lt ?_ | refine And.intro ?_ ?_ | exact trivial | exact .inr rfl | rfl | refine sc_int | refine sc_bt ?_ | refine sc_bf ?_ | refine sc_bb ?_ | refine sc_bh ?_ | refine sc_ih ?_) | refine callW0 measureOf2_s rfl trivial ?_ | refine as_yes rfl hu (fun _ h => by cases h) rfl ?_ | with_reducible refine Br.dec (fun _ => ?_) (fun _ => ?_) | with_reducible refine Br.decn (fun _ => ?_) (fun _ => ?_) | with_reducible refine d_left [] ?_ ?_ | exact rfl | exact Nat.le_of_ble_eq_true rfl | (refine Nat.le_of_eq ?_; simp [rows, seqI]; done) | refine call_go rfl rfl [] ?_ | (refine Hid.mk ?_; first | decide | omega | (simp <;> omega) | (intro e; subst e; omega) | (intro e; subst e; simp_all; done) | exact Prod.ext (by omega) (by omega))) <;> conv => whnf)
  · refine spec_mk ctx_mixed ctx_enters 0 Tryz.func109 rfl rfl (Nat.le_of_ble_eq_true rfl) 0 rfl ?_; conv => whnf
    repeat' ((first | (with_reducible first | refine d_chk ?_ | refine Br.tt ?_ | refine Br.ff ?_ | refine Br.beq ?_ | refine Br.bne ?_ | refine Br.nt ?_ | refine Br.nf ?_ | refine d_wrap ?_ | refine d_rem ?_ | refine d_nat ?_ | refine d_get (by omega) ?_ | refine Br.yesd ?_ | refine Br.nod ?_ | refine Br.yesn ?_ | refine Br.nodn ?_ | refine d_le ?_ | refine d_lt ?_ | refine And.intro ?_ ?_ | exact trivial | exact .inr rfl | rfl | refine sc_int | refine sc_bt ?_ | refine sc_bf ?_ | refine sc_bb ?_ | refine sc_bh ?_ | refine sc_ih ?_) | refine callW0 measureOf3_s rfl trivial ?_ | refine as_no rfl hu (fun _ h => by cases h) z_pick rep_agg0 rfl (by decide) ?_ | with_reducible refine Br.dec (fun _ => ?_) (fun _ => ?_) | with_reducible refine Br.decn (fun _ => ?_) (fun _ => ?_) | with_reducible refine d_left [] ?_ ?_ | exact rfl | exact Nat.le_of_ble_eq_true rfl | (refine Nat.le_of_eq ?_; simp [rows, seqI]; done) | refine call_go rfl rfl [] ?_ | (refine Hid.mk ?_; first | decide | omega | (simp <;> omega) | (intro e; subst e; omega) | (intro e; subst e; simp_all; done) | exact Prod.ext (by omega) (by omega))) <;> conv => whnf)
/-- the vector and the proof of a list -/
theorem cut_s (k : Int) (l : List Int) (hk : 1 ≤ k ∧ k ≤ 3) (hl : (l.length : Int) = 3 * lenOf k + 3) (n : Nat) (hn : (n : Int) = lenOf k) : Spec ctx 199 [iv .i64 k, sl l none] [] (.tup [.own 0 1 0 n none, .agg [iv .i64 (l.getD n 0), iv .i64 (l.getD (n + 1) 0), .own 1 1 0 (2 * n + 1) none]]) (cownH (l.take n) (l.drop (n + 2))) := by
  have la := rows_len ci l
  have hL := lenOf_le k
  have lv : (l.take n).length = n := by rw [List.length_take]; omega
  have lH : (l.drop (n + 2)).length = 2 * n + 1 := by rw [List.length_drop]; omega
  have s1 := Clone_s (l.take n) (by omega)
  have s2 := Clone_s (l.drop (n + 2)) (by omega)
  rw [lv] at s1
  rw [lH] at s2
  refine spec_mk ctx_mixed ctx_enters 6 Tryz.func199 rfl rfl (Nat.le_of_ble_eq_true rfl) 0 rfl ?_; conv => whnf
  repeat' ((first | (with_reducible first | refine d_chk ?_ | refine Br.tt ?_ | refine Br.ff ?_ | refine Br.beq ?_ | refine Br.bne ?_ | refine Br.nt ?_ | refine Br.nf ?_ | refine d_wrap ?_ | refine d_rem ?_ | refine d_nat ?_ | refine d_get (by omega) ?_ | refine Br.yesd ?_ | refine Br.nod ?_ | refine Br.yesn ?_ | refine Br.nodn ?_ | refine d_le ?_ | refine d_lt ?_ | refine And.intro ?_ ?_ | exact trivial | exact .inr rfl | rfl | refine sc_int | refine sc_bt ?_ | refine sc_bf ?_ | refine sc_bb ?_ | refine sc_bh ?_ | refine sc_ih ?_) | refine callW0 (iTypeLenL_s k n (by omega) hk) rfl trivial ?_ | (refine ⟨n, rfl, ?_⟩) | (refine ⟨n + 1, by omega, ?_⟩) | (refine ⟨n + 2, by omega, ?_⟩) | (refine callWln (f := 122) s1 1 ⟨trivial, rows_sc _, trivial⟩ ?_ ?_; focus ((repeat' (first | exact trivial | exact rfl | exact .inr rfl | exact .inl rfl | exact rows_dt _ _ | refine And.intro ?_ ?_)); done)) | (refine callWln (f := 122) s2 1 ⟨trivial, rows_sc _, trivial⟩ ?_ ?_; focus ((repeat' (first | exact trivial | exact rfl | exact .inr rfl | exact .inl rfl | exact rows_dall _ _ | refine And.intro ?_ ?_)); done)) | (refine call_go (f := 64) rfl rfl [1] ?_; (conv => whnf); refine callWp (Clip_s n (l.take n) lv (by omega)) ?_ ?_; focus ((repeat' (first | exact trivial | exact rfl | exact .inr rfl | exact .inl rfl | refine And.intro ?_ ?_)); done)) | (refine call_go (f := 64) rfl rfl [2] ?_; (conv => whnf); refine callWp (Clip_s (2 * n + 1) (l.drop (n + 2)) lH (by omega)) ?_ ?_; focus ((repeat' (first | exact trivial | exact rfl | exact .inr rfl | exact .inl rfl | refine And.intro ?_ ?_)); done)) | with_reducible refine d_left [(0, 1), (1, 2)] ?_ ?_ | with_reducible refine Br.dec (fun _ => ?_) (fun _ => ?_) | with_reducible refine Br.decn (fun _ => ?_) (fun _ => ?_) | with_reducible refine d_left [] ?_ ?_ | exact rfl | exact Nat.le_of_ble_eq_true rfl | (refine Nat.le_of_eq ?_; simp [rows, seqI]; done) | refine call_go rfl rfl [] ?_ | (refine Hid.mk ?_; first | decide | omega | (simp <;> omega) | (intro e; subst e; omega) | (intro e; subst e; simp_all; done) | exact Prod.ext (by omega) (by omega))) <;> conv => whnf)
  · intro _; omega
  · intro _; omega
  · exact .inl rfl
  · exact ⟨(getD_get (by omega)).symm⟩
  · exact ⟨(getD_get (by omega)).symm⟩
  · exact .inl rfl
theorem lag (x : Int) (hx : okE x) (v : List Int) (n : Nat) (hn : v.length = n) (h : n = 2 ∨ n = 4 ∨ n = 5) : horner x (ithr v) = l13dot (l2line n x n) v n := by
  subst hn
  match v, h with
  | [a, b], _ => exact lag2 x hx a b
  | [a, b, c, d], _ => exact lag4 x hx a b c d
  | [a, b, c, d, e], _ => exact lag5 x hx a b c d e
  | [], h => simp at h
  | [_], h => simp at h
  | [_, _, _], h => simp at h
  | _ :: _ :: _ :: _ :: _ :: _ :: t, h => simp at h
theorem horner_at (x : Int) : ∀ l, horner x l = l2at l x
  | [] => rfl
  | c :: l => by rw [horner_cons, horner_at x l]; exact s1_ _ _
theorem ask2_map (v : List Int) (V one : Int) (hv : allE v) (h1 : okE one) : ∀ i, i ≤ v.length → ask2 v V one i = V :: (v.take i).map fun n => (n - one) % 31
  | 0, _ => by simp [ask2]
  | i + 1, h => by
    rw [ask2, ask2_map v V one hv h1 i (by omega), List.take_succ_eq_append_getElem (by omega), List.map_append, List.cons_append, getD_get (by omega)]
    have := allE_get hv (show i < v.length by omega)
    have e : fdif v[i] one = (v[i] - one) % 31 := by
      unfold fdif
      rw [if_pos ⟨this, h1⟩]
      omega
    rw [e]; rfl
end Go.Proofs.YtdjoodbidcncaaaGreatDoor.AW

/- The answer of a share, by the program. -/
namespace Go.Proofs.YtdjoodbidcncaaaGreatDoor.AW
open Go Go.Conc
set_option maxRecDepth 10000
section
variable {o : Oper} {N : Nat} {T : Nat → AV} {H : Nat → Option Block}
theorem c_make {nx : Nat} {K : Eff → Prop} {t e : TypeId} {dir : ChanDir} {s : Operand} (ho : o.op = .makeChan t s) (hu : Tryz.prog.underlying t = some (.chan dir e)) {i : TI} (hi : tys.find e = some i) (n : Nat) (hs : ev T s = iv .i64 n)
    (hn : (n : Int) ≤ 9223372036854775807) (hb : (i.bytes : Int) * n ≤ 2 ^ 48 - 112) (h : K ⟨.ch nx, [(nx, some (.ch n [] false))], [nx], []⟩) : CallVC ctx o N T H nx K := ch_make (P := Tryz.prog) (ti := tys.find) (tok := fun _ _ h => TT.find_all tys_ok h) (gl := gl) ho hu hi n hs hn hb h
theorem c_send {nx : Nat} {K : Eff → Prop} {ch x : Operand} (ho : o.op = .send ch x) {b cap : Nat} {es : List CV} (hc : ev T ch = .ch b) {c : CV} (hx : ev T x = .cv c) (hb : H b = some (.ch cap es false)) (hroom : es.length < cap)
    (h : K ⟨.any, [(b, some (.ch cap (es ++ [c]) false))], [], [b]⟩) : CallVC ctx o N T H nx K := ch_send (P := Tryz.prog) (ti := tys.find) (tok := fun _ _ h => TT.find_all tys_ok h) (gl := gl) ho hc hx hb hroom h
theorem c_recv {nx : Nat} {K : Eff → Prop} {ct e : TypeId} {dir : ChanDir} {ch : Operand} {ok : Bool} (ho : o.op = .recv ct ch ok) (hu : Tryz.prog.underlying ct = some (.chan dir e)) {i : TI} (hi : tys.find e = some i) {b cap : Nat} {c : CV} {es : List CV} {shut : Bool} (hc : ev T ch = .ch b)
    (hb : H b = some (.ch cap (c :: es) shut)) (h : K ⟨(match ok with | true => .tup [.cv c, bv true] | false => .cv c), [(b, some (.ch cap es shut))], [], [b]⟩) : CallVC ctx o N T H nx K := ch_recv (P := Tryz.prog) (ti := tys.find) (tok := fun _ _ h => TT.find_all tys_ok h) (gl := gl) ho hu hi hc hb h
theorem c_over {nx : Nat} {K : Eff → Prop} {ct e : TypeId} {dir : ChanDir} {ch : Operand} {ok : Bool} (ho : o.op = .recv ct ch ok) (hu : Tryz.prog.underlying ct = some (.chan dir e)) {i : TI} (hi : tys.find e = some i) {b cap : Nat} (hc : ev T ch = .ch b)
    (hb : H b = some (.ch cap [] true)) {v : AV} (hv : mkVar i.agg (zeroA i) = some v) (h : K ⟨(match ok with | true => .tup [v, bv false] | false => v), [], [], [b]⟩) : CallVC ctx o N T H nx K := ch_over (P := Tryz.prog) (ti := tys.find) (tok := fun _ _ h => TT.find_all tys_ok h) (gl := gl) ho hu hi hc hb hv h
theorem c_close {nx : Nat} {K : Eff → Prop} {x : Operand} {ats : Array TypeId} (ho : o.op = .call { callee := .builtin .close, args := #[x], argTypes := ats }) {b cap : Nat} {es : List CV} (hx : ev T x = .ch b) (hb : H b = some (.ch cap es false))
    (h : K ⟨.tup [], [(b, some (.ch cap es true))], [], [b]⟩) : CallVC ctx o N T H nx K := ch_close (P := Tryz.prog) (ti := tys.find) (tok := fun _ _ h => TT.find_all tys_ok h) (gl := gl) ho hx hb h
end
abbrev cn (x : Int) : CV := .sc (.int .i64 x)
set_option maxHeartbeats 4000000 in
theorem iask_s (k : Int) (l : List Int) (f : Bool) (at_ d : Int) (hk : 1 ≤ k ∧ k ≤ 3) (hl : (l.length : Int) = 3 * lenOf k + 3) (ho : allE l) (ha : okE at_) (hd : okE d) (n : Nat) (hn : (n : Int) = lenOf k) : Spec ctx 153 [iv .i64 k, sl l none, bv f, iv .i64 at_, iv .i64 d] [] (.own 0 1 0 4 none) [(0, some (.row 1 (rows ci (ask k l (if f then 1 else 0) at_ d n))))] := by
  have hL := lenOf_le k
  have hn4 : n = 1 ∨ n = 4 ∨ n = 3 := by
    have hc : k = 1 ∨ k = 2 ∨ k = 3 := by omega
    rcases hc with rfl | rfl | rfl <;> simp [lenOf] at hn <;> omega
  have sC := cut_s k l hk hl n hn
  have sO := oneHot_s k hk
  obtain ⟨v, hv⟩ : ∃ v, v = l.take n := ⟨_, rfl⟩
  obtain ⟨H, hH⟩ : ∃ H, H = l.drop (n + 2) := ⟨_, rfl⟩
  obtain ⟨U, hU⟩ : ∃ U, U = l.getD n 0 := ⟨_, rfl⟩
  obtain ⟨V, hV⟩ : ∃ V, V = l.getD (n + 1) 0 := ⟨_, rfl⟩
  have lv : v.length = n := by rw [hv, List.length_take]; omega
  have lH : H.length = 2 * n + 1 := by rw [hH, List.length_drop]; omega
  have ov : allE v := fun x hx => ho x (List.mem_of_mem_take (hv ▸ hx))
  have oH : allE H := fun x hx => ho x (List.mem_of_mem_drop (hH ▸ hx))
  have oU : okE U := by rw [hU]; exact allE_getD ho _
  have oV : okE V := by rw [hV]; exact allE_getD ho _
  rw [← hv, ← hH, ← hU, ← hV] at sC
  unfold ask
  rw [← hv, ← hH, ← hU, ← hV]
  obtain ⟨one, h1⟩ : ∃ one : Int, one = if f then 1 else 0 := ⟨_, rfl⟩
  have o1 : okE one := by rw [h1]; cases f <;> decide
  rw [← h1]
  have eS := ask2_map v V one ov o1 n (by omega)
  rw [List.take_of_length_le (by omega)] at eS
  obtain ⟨W, hW⟩ : ∃ W, W = v.map fun n => (n - one) % 31 := ⟨_, rfl⟩
  rw [← hW] at eS
  have lW : W.length = n := by rw [hW, List.length_map, lv]
  have oW : allE W := fun x hx => by
    rw [hW, List.mem_map] at hx
    obtain ⟨y, _, rfl⟩ := hx
    exact emod_ok _
  have lU : (U :: v).length = n + 1 := by simp [lv]
  have lV : (V :: W).length = n + 1 := by simp [lW]
  rw [eS, ← lag at_ ha (U :: v) (n + 1) lU (by omega), ← lag at_ ha (V :: W) (n + 1) lV (by omega), ← horner_at]
  have sA1 := ahead_s v U (by omega)
  have sT1 := iThrough_s (U :: v) (allE_cons oU ov) (by omega)
  have sL := lowered_s v one ov o1 (by omega)
  have sA2 := ahead_s W V (by omega)
  have sT2 := iThrough_s (V :: W) (allE_cons oV oW) (by omega)
  rw [← hW] at sL
  rw [lv] at sA1 sL
  rw [lW] at sA2
  rw [lU] at sT1
  rw [lV] at sT2
  have t1 : (ithr (U :: v)).length = n + 1 := by unfold ithr; rw [nkO_len, lU]
  have t2 : (ithr (V :: W)).length = n + 1 := by unfold ithr; rw [nkO_len, lV]
  have k1 : allE (ithr (U :: v)) := nkO_ok _
  have k2 : allE (ithr (V :: W)) := nkO_ok _
  have sV1 := value_s (ithr (U :: v)) at_ k1 ha (by omega)
  have sV2 := value_s (ithr (V :: W)) at_ k2 ha (by omega)
  have sV3 := value_s H at_ oH ha (by omega)
  have hu : Tryz.prog.underlying 210 = some (.chan _ 93) := Tryz.underlying210
  obtain ⟨p1, hp1⟩ : ∃ p, p = horner at_ (ithr (U :: v)) := ⟨_, rfl⟩
  obtain ⟨p2, hp2⟩ : ∃ p, p = horner at_ (ithr (V :: W)) := ⟨_, rfl⟩
  obtain ⟨p3, hp3⟩ : ∃ p, p = horner at_ H := ⟨_, rfl⟩
  rw [← hp1] at sV1 ⊢
  rw [← hp2] at sV2 ⊢
  rw [← hp3] at sV3 ⊢
  have hrow : ∀ (m : Nat) (x : List Int), x.length = m → (0 + m).le (rows ci x).length := fun m x hx => by
    show 0 + m ≤ _
    rw [rows_len]; omega
  have hF : (askC H d n + askW d n * ((askS v n - one) % 31) % 31) % 31 = (askC H d n + askW d n * fdif (askS v n) one) % 31 := by
    have e : fdif (askS v n) one = (askS v n - one) % 31 := by
      unfold fdif
      rw [if_pos ⟨askS_ok _ _, o1⟩]
      have := askS_ok v n
      omega
    rw [e, s2_]
  cases f
  · obtain rfl : one = 0 := h1
    refine spec_mk ctx_mixed ctx_enters 9 Tryz.func153 rfl rfl (Nat.le_of_ble_eq_true rfl) 0 rfl ?_; conv => whnf
    repeat' ((first | (with_reducible first | refine d_chk ?_ | refine Br.tt ?_ | refine Br.ff ?_ | refine Br.beq ?_ | refine Br.bne ?_ | refine Br.nt ?_ | refine Br.nf ?_ | refine d_wrap ?_ | refine d_rem ?_ | refine d_nat ?_ | refine d_get (by omega) ?_ | refine Br.yesd ?_ | refine Br.nod ?_ | refine Br.yesn ?_ | refine Br.nodn ?_ | refine d_le ?_ | refine d_lt ?_ | refine And.intro ?_ ?_ | exact trivial | exact .inr rfl | rfl | refine sc_int | refine sc_bt ?_ | refine sc_bf ?_ | refine sc_bb ?_ | refine sc_bh ?_ | refine sc_ih ?_) | refine callWn sC 2 rfl ⟨⟨trivial, ⟨trivial, trivial, trivial, trivial⟩, trivial⟩, rows_sc _, rows_sc _, trivial⟩ ?_ | refine c_make rfl hu rfl 4 rfl (by decide) (by decide) ?_ | refine c_send rfl rfl rfl rfl (Nat.le_of_ble_eq_true rfl) ?_ | refine c_close rfl rfl rfl ?_ | (refine callWln (f := 138) sA1 1 ⟨trivial, rows_sc _, trivial⟩ ?_ ?_; focus ((repeat' (first | exact trivial | exact rfl | exact .inr rfl | exact .inl rfl | exact rows_al' _ _ lv | refine And.intro ?_ ?_)); done)) | (refine callWln (f := 138) sA2 1 ⟨trivial, rows_sc _, trivial⟩ ?_ ?_; focus ((repeat' (first | exact trivial | exact rfl | exact .inr rfl | exact .inl rfl | exact rows_al' _ _ lW | refine And.intro ?_ ?_)); done)) | (refine callWln (f := 139) sL 1 ⟨trivial, rows_sc _, trivial⟩ ?_ ?_; focus ((repeat' (first | exact trivial | exact rfl | exact .inr rfl | exact .inl rfl | exact rows_al' _ _ lv | refine And.intro ?_ ?_)); done)) | (refine callWln (f := 137) sT1 1 ⟨trivial, rows_sc _, trivial⟩ ?_ ?_; focus ((repeat' (first | exact trivial | exact rfl | exact .inr rfl | exact .inl rfl | exact rows_al' _ _ lU | refine And.intro ?_ ?_)); done)) | (refine callWln (f := 137) sT2 1 ⟨trivial, rows_sc _, trivial⟩ ?_ ?_; focus ((repeat' (first | exact trivial | exact rfl | exact .inr rfl | exact .inl rfl | exact rows_al' _ _ lV | refine And.intro ?_ ?_)); done)) | (refine callWl (f := 200) sV1 trivial ?_ ?_; focus ((repeat' (first | exact trivial | exact rfl | exact .inr rfl | exact .inl rfl | exact rows_al' _ _ t1 | refine And.intro ?_ ?_)); done)) | (refine callWl (f := 200) sV2 trivial ?_ ?_; focus ((repeat' (first | exact trivial | exact rfl | exact .inr rfl | exact .inl rfl | exact rows_al' _ _ t2 | refine And.intro ?_ ?_)); done)) | (refine callWl (f := 200) sV3 trivial ?_ ?_; focus ((repeat' (first | exact trivial | exact rfl | exact .inr rfl | exact .inl rfl | exact rows_al' _ _ lH | refine And.intro ?_ ?_)); done)) | with_reducible refine Br.dec (fun _ => ?_) (fun _ => ?_) | with_reducible refine Br.decn (fun _ => ?_) (fun _ => ?_) | with_reducible refine d_left [] ?_ ?_ | exact rfl | exact Nat.le_of_ble_eq_true rfl | (refine Nat.le_of_eq ?_; simp [rows, seqI]; done) | refine call_go rfl rfl [] ?_ | (refine Hid.mk ?_; first | decide | omega | (simp <;> omega) | (intro e; subst e; omega) | (intro e; subst e; simp_all; done) | exact Prod.ext (by omega) (by omega))) <;> conv => whnf)
    all_goals (first | exact hrow _ _ lv | exact hrow _ _ lU | exact hrow _ _ lW | exact hrow _ _ lV | exact hrow _ _ t1 | exact hrow _ _ t2 | exact hrow _ _ lH | skip)
    refine AW.loopP (fun i : Nat => ⟨[(0, iv .i64 k), (3, iv .i64 at_), (4, iv .i64 d), (11, iv .i64 0), (12, .own 0 1 0 n none), (13, .ptr 2 3 0 0), (14, .ch 3), (15, iv .i64 (askC H d i)), (51, iv .i64 n), (52, iv .i64 i)], [(0, some (.row 1 (rows ci v))), (1, some (.row 1 (rows ci H))), (2, some (.box [iv .i64 U, iv .i64 V, .own 1 1 0 (2 * n + 1) none])), (3, some (.ch 4 [cn p1, cn p2, cn p3] false))], 4⟩) (fun i => i ≤ n) (fun i => n - i) 0 [(0, 0), (1, 1), (2, 2), (3, 3)] (d_sub _ ?_ ?_) (by omega) (fun i hi => ?_) <;> (conv => whnf) <;>
    repeat' ((first | (with_reducible first | refine d_chk ?_ | refine Br.tt ?_ | refine Br.ff ?_ | refine Br.beq ?_ | refine Br.bne ?_ | refine Br.nt ?_ | refine Br.nf ?_ | refine d_wrap ?_ | refine d_rem ?_ | refine d_nat ?_ | refine d_get (by omega) ?_ | refine Br.yesd ?_ | refine Br.nod ?_ | refine Br.yesn ?_ | refine Br.nodn ?_ | refine d_le ?_ | refine d_lt ?_ | refine And.intro ?_ ?_ | exact trivial | exact .inr rfl | rfl | refine sc_int | refine sc_bt ?_ | refine sc_bf ?_ | refine sc_bb ?_ | refine sc_bh ?_ | refine sc_ih ?_) | refine callW0 (power_s d i hd (by omega)) rfl trivial ?_ | refine callW0 sO rfl trivial ?_ | (refine callWl (f := 200) (value_s H ((i : Int) + 1) oH ⟨by omega, by omega⟩ (by omega)) trivial ?_ ?_; focus ((repeat' (first | exact trivial | exact rfl | exact .inr rfl | exact .inl rfl | exact rows_al' _ _ lH | refine And.intro ?_ ?_)); done)) | refine callW0 (times_s _ _ (askW_ok d i) (horner_ok _ _)) rfl trivial ?_ | refine callW0 (plus_s _ _ (askC_ok H d i) (emod_ok _)) rfl trivial ?_ | refine d_end (i+1) [(0, 0), (1, 1), (2, 2), (3, 3)] (d_sub _ ?_ ?_) ?_ | with_reducible refine Br.dec (fun _ => ?_) (fun _ => ?_) | with_reducible refine Br.decn (fun _ => ?_) (fun _ => ?_) | with_reducible refine d_left [] ?_ ?_ | exact rfl | exact Nat.le_of_ble_eq_true rfl | (refine Nat.le_of_eq ?_; simp [rows, seqI]; done) | refine call_go rfl rfl [] ?_ | (refine Hid.mk ?_; first | decide | omega | (simp <;> omega) | (intro e; subst e; omega) | (intro e; subst e; simp_all; done) | exact Prod.ext (by omega) (by omega))) <;> conv => whnf)
    all_goals (first | exact hrow _ _ lv | exact hrow _ _ lU | exact hrow _ _ lW | exact hrow _ _ lV | exact hrow _ _ t1 | exact hrow _ _ t2 | exact hrow _ _ lH | skip)
    · exact ⟨rfl⟩
    · exact ⟨by rw [askC, s2_, horner_at]⟩
    · obtain rfl : i = n := by omega
      repeat' ((first | (with_reducible first | refine d_chk ?_ | refine Br.tt ?_ | refine Br.ff ?_ | refine Br.beq ?_ | refine Br.bne ?_ | refine Br.nt ?_ | refine Br.nf ?_ | refine d_wrap ?_ | refine d_rem ?_ | refine d_nat ?_ | refine d_get (by omega) ?_ | refine Br.yesd ?_ | refine Br.nod ?_ | refine Br.yesn ?_ | refine Br.nodn ?_ | refine d_le ?_ | refine d_lt ?_ | refine And.intro ?_ ?_ | exact trivial | exact .inr rfl | rfl | refine sc_int | refine sc_bt ?_ | refine sc_bf ?_ | refine sc_bb ?_ | refine sc_bh ?_ | refine sc_ih ?_) | refine callW0 (power_s d i hd (by omega)) rfl trivial ?_ | (refine callWl (f := 202) (total_s v ov (by omega)) trivial ?_ ?_; focus ((repeat' (first | exact trivial | exact rfl | exact .inr rfl | exact .inl rfl | exact rows_al' _ _ lv | refine And.intro ?_ ?_)); done)) | refine callW0 (minus_s _ _ (askS_ok v v.length) o1) rfl trivial ?_ | refine callW0 (times_s _ _ (askW_ok d i) (emod_ok _)) rfl trivial ?_ | refine callW0 (plus_s _ _ (askC_ok H d i) (emod_ok _)) rfl trivial ?_ | refine c_send rfl rfl rfl rfl (Nat.le_of_ble_eq_true rfl) ?_ | refine c_close rfl rfl rfl ?_ | (refine ⟨0, rfl, ?_⟩) | (refine ⟨4, rfl, ?_⟩) | with_reducible refine Br.dec (fun _ => ?_) (fun _ => ?_) | with_reducible refine Br.decn (fun _ => ?_) (fun _ => ?_) | with_reducible refine d_left [] ?_ ?_ | exact rfl | exact Nat.le_of_ble_eq_true rfl | (refine Nat.le_of_eq ?_; simp [rows, seqI]; done) | refine call_go rfl rfl [] ?_ | (refine Hid.mk ?_; first | decide | omega | (simp <;> omega) | (intro e; subst e; omega) | (intro e; subst e; simp_all; done) | exact Prod.ext (by omega) (by omega))) <;> conv => whnf)
      all_goals (first | exact hrow _ _ lv | skip)
      obtain ⟨s, hs⟩ : ∃ s, s = (askC H d i + askW d i * ((askS v v.length - 0) % 31) % 31) % 31 := ⟨_, rfl⟩
      rw [← hs]
      refine AW.loopP (fun j : Nat => ⟨[(17, .own 1 1 0 j none), (84, .ch 0)], [(0, some (.ch 4 (([p1, p2, p3, s].drop j).map cn) true)), (1, some (.row 1 (rows ci ([p1, p2, p3, s].take j))))], 2⟩) (fun j => j ≤ 4) (fun j => 4 - j) 0 [(0, 3), (1, 4)] (d_sub _ ?_ ?_) (by omega) (fun j hj => ?_)
      · (conv => whnf)
        repeat' ((first | (with_reducible first | refine d_chk ?_ | refine Br.tt ?_ | refine Br.ff ?_ | refine Br.beq ?_ | refine Br.bne ?_ | refine Br.nt ?_ | refine Br.nf ?_ | refine d_wrap ?_ | refine d_rem ?_ | refine d_nat ?_ | refine d_get (by omega) ?_ | refine Br.yesd ?_ | refine Br.nod ?_ | refine Br.yesn ?_ | refine Br.nodn ?_ | refine d_le ?_ | refine d_lt ?_ | refine And.intro ?_ ?_ | exact trivial | exact .inr rfl | rfl | refine sc_int | refine sc_bt ?_ | refine sc_bf ?_ | refine sc_bb ?_ | refine sc_bh ?_ | refine sc_ih ?_) | with_reducible refine Br.dec (fun _ => ?_) (fun _ => ?_) | with_reducible refine Br.decn (fun _ => ?_) (fun _ => ?_) | with_reducible refine d_left [] ?_ ?_ | exact rfl | exact Nat.le_of_ble_eq_true rfl | (refine Nat.le_of_eq ?_; simp [rows, seqI]; done) | refine call_go rfl rfl [] ?_ | (refine Hid.mk ?_; first | decide | omega | (simp <;> omega) | (intro e; subst e; omega) | (intro e; subst e; simp_all; done) | exact Prod.ext (by omega) (by omega))) <;> conv => whnf)
        exact .inl rfl
      · (conv => whnf)
        repeat' ((first | (with_reducible first | refine d_chk ?_ | refine Br.tt ?_ | refine Br.ff ?_ | refine Br.beq ?_ | refine Br.bne ?_ | refine Br.nt ?_ | refine Br.nf ?_ | refine d_wrap ?_ | refine d_rem ?_ | refine d_nat ?_ | refine d_get (by omega) ?_ | refine Br.yesd ?_ | refine Br.nod ?_ | refine Br.yesn ?_ | refine Br.nodn ?_ | refine d_le ?_ | refine d_lt ?_ | refine And.intro ?_ ?_ | exact trivial | exact .inr rfl | rfl | refine sc_int | refine sc_bt ?_ | refine sc_bf ?_ | refine sc_bb ?_ | refine sc_bh ?_ | refine sc_ih ?_) | with_reducible refine Br.dec (fun _ => ?_) (fun _ => ?_) | with_reducible refine Br.decn (fun _ => ?_) (fun _ => ?_) | with_reducible refine d_left [] ?_ ?_ | exact rfl | exact Nat.le_of_ble_eq_true rfl | (refine Nat.le_of_eq ?_; simp [rows, seqI]; done) | refine call_go rfl rfl [] ?_ | (refine Hid.mk ?_; first | decide | omega | (simp <;> omega) | (intro e; subst e; omega) | (intro e; subst e; simp_all; done) | exact Prod.ext (by omega) (by omega))) <;> conv => whnf)
      have hc : j = 0 ∨ j = 1 ∨ j = 2 ∨ j = 3 ∨ j = 4 := by omega
      rcases hc with rfl | rfl | rfl | rfl | rfl <;> (conv => whnf) <;>
      repeat' ((first | (with_reducible first | refine d_chk ?_ | refine Br.tt ?_ | refine Br.ff ?_ | refine Br.beq ?_ | refine Br.bne ?_ | refine Br.nt ?_ | refine Br.nf ?_ | refine d_wrap ?_ | refine d_rem ?_ | refine d_nat ?_ | refine d_get (by omega) ?_ | refine Br.yesd ?_ | refine Br.nod ?_ | refine Br.yesn ?_ | refine Br.nodn ?_ | refine d_le ?_ | refine d_lt ?_ | refine And.intro ?_ ?_ | exact trivial | exact .inr rfl | rfl | refine sc_int | refine sc_bt ?_ | refine sc_bf ?_ | refine sc_bb ?_ | refine sc_bh ?_ | refine sc_ih ?_) | refine c_recv rfl hu rfl rfl rfl ?_ | refine c_over rfl hu rfl rfl rfl rfl ?_ | refine d_end 1 [(0, 0), (1, 3)] (d_sub _ ?_ ?_) ?_ | refine d_end 2 [(0, 0), (1, 3)] (d_sub _ ?_ ?_) ?_ | refine d_end 3 [(0, 0), (1, 3)] (d_sub _ ?_ ?_) ?_ | refine d_end 4 [(0, 0), (1, 3)] (d_sub _ ?_ ?_) ?_ | with_reducible refine d_left [(0, 1)] ?_ ?_ | with_reducible refine Br.dec (fun _ => ?_) (fun _ => ?_) | with_reducible refine Br.decn (fun _ => ?_) (fun _ => ?_) | with_reducible refine d_left [] ?_ ?_ | exact rfl | exact Nat.le_of_ble_eq_true rfl | (refine Nat.le_of_eq ?_; simp [rows, seqI]; done) | refine call_go rfl rfl [] ?_ | (refine Hid.mk ?_; first | decide | omega | (simp <;> omega) | (intro e; subst e; omega) | (intro e; subst e; simp_all; done) | exact Prod.ext (by omega) (by omega))) <;> conv => whnf)
      rw [hs, if_pos (by first | omega | (simp_all; done)), ← hF, lv]
      rfl
    · obtain rfl : i = n := by omega
      repeat' ((first | (with_reducible first | refine d_chk ?_ | refine Br.tt ?_ | refine Br.ff ?_ | refine Br.beq ?_ | refine Br.bne ?_ | refine Br.nt ?_ | refine Br.nf ?_ | refine d_wrap ?_ | refine d_rem ?_ | refine d_nat ?_ | refine d_get (by omega) ?_ | refine Br.yesd ?_ | refine Br.nod ?_ | refine Br.yesn ?_ | refine Br.nodn ?_ | refine d_le ?_ | refine d_lt ?_ | refine And.intro ?_ ?_ | exact trivial | exact .inr rfl | rfl | refine sc_int | refine sc_bt ?_ | refine sc_bf ?_ | refine sc_bb ?_ | refine sc_bh ?_ | refine sc_ih ?_) | refine c_send rfl rfl rfl rfl (Nat.le_of_ble_eq_true rfl) ?_ | refine c_close rfl rfl rfl ?_ | (refine ⟨0, rfl, ?_⟩) | (refine ⟨4, rfl, ?_⟩) | with_reducible refine Br.dec (fun _ => ?_) (fun _ => ?_) | with_reducible refine Br.decn (fun _ => ?_) (fun _ => ?_) | with_reducible refine d_left [] ?_ ?_ | exact rfl | exact Nat.le_of_ble_eq_true rfl | (refine Nat.le_of_eq ?_; simp [rows, seqI]; done) | refine call_go rfl rfl [] ?_ | (refine Hid.mk ?_; first | decide | omega | (simp <;> omega) | (intro e; subst e; omega) | (intro e; subst e; simp_all; done) | exact Prod.ext (by omega) (by omega))) <;> conv => whnf)
      all_goals (first | exact hrow _ _ lv | skip)
      obtain ⟨s, hs⟩ : ∃ s, s = askC H d i := ⟨_, rfl⟩
      rw [← hs]
      refine AW.loopP (fun j : Nat => ⟨[(17, .own 1 1 0 j none), (84, .ch 0)], [(0, some (.ch 4 (([p1, p2, p3, s].drop j).map cn) true)), (1, some (.row 1 (rows ci ([p1, p2, p3, s].take j))))], 2⟩) (fun j => j ≤ 4) (fun j => 4 - j) 0 [(0, 3), (1, 4)] (d_sub _ ?_ ?_) (by omega) (fun j hj => ?_)
      · (conv => whnf)
        repeat' ((first | (with_reducible first | refine d_chk ?_ | refine Br.tt ?_ | refine Br.ff ?_ | refine Br.beq ?_ | refine Br.bne ?_ | refine Br.nt ?_ | refine Br.nf ?_ | refine d_wrap ?_ | refine d_rem ?_ | refine d_nat ?_ | refine d_get (by omega) ?_ | refine Br.yesd ?_ | refine Br.nod ?_ | refine Br.yesn ?_ | refine Br.nodn ?_ | refine d_le ?_ | refine d_lt ?_ | refine And.intro ?_ ?_ | exact trivial | exact .inr rfl | rfl | refine sc_int | refine sc_bt ?_ | refine sc_bf ?_ | refine sc_bb ?_ | refine sc_bh ?_ | refine sc_ih ?_) | with_reducible refine Br.dec (fun _ => ?_) (fun _ => ?_) | with_reducible refine Br.decn (fun _ => ?_) (fun _ => ?_) | with_reducible refine d_left [] ?_ ?_ | exact rfl | exact Nat.le_of_ble_eq_true rfl | (refine Nat.le_of_eq ?_; simp [rows, seqI]; done) | refine call_go rfl rfl [] ?_ | (refine Hid.mk ?_; first | decide | omega | (simp <;> omega) | (intro e; subst e; omega) | (intro e; subst e; simp_all; done) | exact Prod.ext (by omega) (by omega))) <;> conv => whnf)
        exact .inl rfl
      · (conv => whnf)
        repeat' ((first | (with_reducible first | refine d_chk ?_ | refine Br.tt ?_ | refine Br.ff ?_ | refine Br.beq ?_ | refine Br.bne ?_ | refine Br.nt ?_ | refine Br.nf ?_ | refine d_wrap ?_ | refine d_rem ?_ | refine d_nat ?_ | refine d_get (by omega) ?_ | refine Br.yesd ?_ | refine Br.nod ?_ | refine Br.yesn ?_ | refine Br.nodn ?_ | refine d_le ?_ | refine d_lt ?_ | refine And.intro ?_ ?_ | exact trivial | exact .inr rfl | rfl | refine sc_int | refine sc_bt ?_ | refine sc_bf ?_ | refine sc_bb ?_ | refine sc_bh ?_ | refine sc_ih ?_) | with_reducible refine Br.dec (fun _ => ?_) (fun _ => ?_) | with_reducible refine Br.decn (fun _ => ?_) (fun _ => ?_) | with_reducible refine d_left [] ?_ ?_ | exact rfl | exact Nat.le_of_ble_eq_true rfl | (refine Nat.le_of_eq ?_; simp [rows, seqI]; done) | refine call_go rfl rfl [] ?_ | (refine Hid.mk ?_; first | decide | omega | (simp <;> omega) | (intro e; subst e; omega) | (intro e; subst e; simp_all; done) | exact Prod.ext (by omega) (by omega))) <;> conv => whnf)
      have hc : j = 0 ∨ j = 1 ∨ j = 2 ∨ j = 3 ∨ j = 4 := by omega
      rcases hc with rfl | rfl | rfl | rfl | rfl <;> (conv => whnf) <;>
      repeat' ((first | (with_reducible first | refine d_chk ?_ | refine Br.tt ?_ | refine Br.ff ?_ | refine Br.beq ?_ | refine Br.bne ?_ | refine Br.nt ?_ | refine Br.nf ?_ | refine d_wrap ?_ | refine d_rem ?_ | refine d_nat ?_ | refine d_get (by omega) ?_ | refine Br.yesd ?_ | refine Br.nod ?_ | refine Br.yesn ?_ | refine Br.nodn ?_ | refine d_le ?_ | refine d_lt ?_ | refine And.intro ?_ ?_ | exact trivial | exact .inr rfl | rfl | refine sc_int | refine sc_bt ?_ | refine sc_bf ?_ | refine sc_bb ?_ | refine sc_bh ?_ | refine sc_ih ?_) | refine c_recv rfl hu rfl rfl rfl ?_ | refine c_over rfl hu rfl rfl rfl rfl ?_ | refine d_end 1 [(0, 0), (1, 3)] (d_sub _ ?_ ?_) ?_ | refine d_end 2 [(0, 0), (1, 3)] (d_sub _ ?_ ?_) ?_ | refine d_end 3 [(0, 0), (1, 3)] (d_sub _ ?_ ?_) ?_ | refine d_end 4 [(0, 0), (1, 3)] (d_sub _ ?_ ?_) ?_ | with_reducible refine d_left [(0, 1)] ?_ ?_ | with_reducible refine Br.dec (fun _ => ?_) (fun _ => ?_) | with_reducible refine Br.decn (fun _ => ?_) (fun _ => ?_) | with_reducible refine d_left [] ?_ ?_ | exact rfl | exact Nat.le_of_ble_eq_true rfl | (refine Nat.le_of_eq ?_; simp [rows, seqI]; done) | refine call_go rfl rfl [] ?_ | (refine Hid.mk ?_; first | decide | omega | (simp <;> omega) | (intro e; subst e; omega) | (intro e; subst e; simp_all; done) | exact Prod.ext (by omega) (by omega))) <;> conv => whnf)
      rw [hs, if_neg (by first | omega | (simp_all; done))]
      rfl
  · obtain rfl : one = 1 := h1
    refine spec_mk ctx_mixed ctx_enters 9 Tryz.func153 rfl rfl (Nat.le_of_ble_eq_true rfl) 0 rfl ?_; conv => whnf
    repeat' ((first | (with_reducible first | refine d_chk ?_ | refine Br.tt ?_ | refine Br.ff ?_ | refine Br.beq ?_ | refine Br.bne ?_ | refine Br.nt ?_ | refine Br.nf ?_ | refine d_wrap ?_ | refine d_rem ?_ | refine d_nat ?_ | refine d_get (by omega) ?_ | refine Br.yesd ?_ | refine Br.nod ?_ | refine Br.yesn ?_ | refine Br.nodn ?_ | refine d_le ?_ | refine d_lt ?_ | refine And.intro ?_ ?_ | exact trivial | exact .inr rfl | rfl | refine sc_int | refine sc_bt ?_ | refine sc_bf ?_ | refine sc_bb ?_ | refine sc_bh ?_ | refine sc_ih ?_) | refine callWn sC 2 rfl ⟨⟨trivial, ⟨trivial, trivial, trivial, trivial⟩, trivial⟩, rows_sc _, rows_sc _, trivial⟩ ?_ | refine c_make rfl hu rfl 4 rfl (by decide) (by decide) ?_ | refine c_send rfl rfl rfl rfl (Nat.le_of_ble_eq_true rfl) ?_ | refine c_close rfl rfl rfl ?_ | (refine callWln (f := 138) sA1 1 ⟨trivial, rows_sc _, trivial⟩ ?_ ?_; focus ((repeat' (first | exact trivial | exact rfl | exact .inr rfl | exact .inl rfl | exact rows_al' _ _ lv | refine And.intro ?_ ?_)); done)) | (refine callWln (f := 138) sA2 1 ⟨trivial, rows_sc _, trivial⟩ ?_ ?_; focus ((repeat' (first | exact trivial | exact rfl | exact .inr rfl | exact .inl rfl | exact rows_al' _ _ lW | refine And.intro ?_ ?_)); done)) | (refine callWln (f := 139) sL 1 ⟨trivial, rows_sc _, trivial⟩ ?_ ?_; focus ((repeat' (first | exact trivial | exact rfl | exact .inr rfl | exact .inl rfl | exact rows_al' _ _ lv | refine And.intro ?_ ?_)); done)) | (refine callWln (f := 137) sT1 1 ⟨trivial, rows_sc _, trivial⟩ ?_ ?_; focus ((repeat' (first | exact trivial | exact rfl | exact .inr rfl | exact .inl rfl | exact rows_al' _ _ lU | refine And.intro ?_ ?_)); done)) | (refine callWln (f := 137) sT2 1 ⟨trivial, rows_sc _, trivial⟩ ?_ ?_; focus ((repeat' (first | exact trivial | exact rfl | exact .inr rfl | exact .inl rfl | exact rows_al' _ _ lV | refine And.intro ?_ ?_)); done)) | (refine callWl (f := 200) sV1 trivial ?_ ?_; focus ((repeat' (first | exact trivial | exact rfl | exact .inr rfl | exact .inl rfl | exact rows_al' _ _ t1 | refine And.intro ?_ ?_)); done)) | (refine callWl (f := 200) sV2 trivial ?_ ?_; focus ((repeat' (first | exact trivial | exact rfl | exact .inr rfl | exact .inl rfl | exact rows_al' _ _ t2 | refine And.intro ?_ ?_)); done)) | (refine callWl (f := 200) sV3 trivial ?_ ?_; focus ((repeat' (first | exact trivial | exact rfl | exact .inr rfl | exact .inl rfl | exact rows_al' _ _ lH | refine And.intro ?_ ?_)); done)) | with_reducible refine Br.dec (fun _ => ?_) (fun _ => ?_) | with_reducible refine Br.decn (fun _ => ?_) (fun _ => ?_) | with_reducible refine d_left [] ?_ ?_ | exact rfl | exact Nat.le_of_ble_eq_true rfl | (refine Nat.le_of_eq ?_; simp [rows, seqI]; done) | refine call_go rfl rfl [] ?_ | (refine Hid.mk ?_; first | decide | omega | (simp <;> omega) | (intro e; subst e; omega) | (intro e; subst e; simp_all; done) | exact Prod.ext (by omega) (by omega))) <;> conv => whnf)
    all_goals (first | exact hrow _ _ lv | exact hrow _ _ lU | exact hrow _ _ lW | exact hrow _ _ lV | exact hrow _ _ t1 | exact hrow _ _ t2 | exact hrow _ _ lH | skip)
    refine AW.loopP (fun i : Nat => ⟨[(0, iv .i64 k), (3, iv .i64 at_), (4, iv .i64 d), (11, iv .i64 1), (12, .own 0 1 0 n none), (13, .ptr 2 3 0 0), (14, .ch 3), (15, iv .i64 (askC H d i)), (51, iv .i64 n), (52, iv .i64 i)], [(0, some (.row 1 (rows ci v))), (1, some (.row 1 (rows ci H))), (2, some (.box [iv .i64 U, iv .i64 V, .own 1 1 0 (2 * n + 1) none])), (3, some (.ch 4 [cn p1, cn p2, cn p3] false))], 4⟩) (fun i => i ≤ n) (fun i => n - i) 0 [(0, 0), (1, 1), (2, 2), (3, 3)] (d_sub _ ?_ ?_) (by omega) (fun i hi => ?_) <;> (conv => whnf) <;>
    repeat' ((first | (with_reducible first | refine d_chk ?_ | refine Br.tt ?_ | refine Br.ff ?_ | refine Br.beq ?_ | refine Br.bne ?_ | refine Br.nt ?_ | refine Br.nf ?_ | refine d_wrap ?_ | refine d_rem ?_ | refine d_nat ?_ | refine d_get (by omega) ?_ | refine Br.yesd ?_ | refine Br.nod ?_ | refine Br.yesn ?_ | refine Br.nodn ?_ | refine d_le ?_ | refine d_lt ?_ | refine And.intro ?_ ?_ | exact trivial | exact .inr rfl | rfl | refine sc_int | refine sc_bt ?_ | refine sc_bf ?_ | refine sc_bb ?_ | refine sc_bh ?_ | refine sc_ih ?_) | refine callW0 (power_s d i hd (by omega)) rfl trivial ?_ | refine callW0 sO rfl trivial ?_ | (refine callWl (f := 200) (value_s H ((i : Int) + 1) oH ⟨by omega, by omega⟩ (by omega)) trivial ?_ ?_; focus ((repeat' (first | exact trivial | exact rfl | exact .inr rfl | exact .inl rfl | exact rows_al' _ _ lH | refine And.intro ?_ ?_)); done)) | refine callW0 (times_s _ _ (askW_ok d i) (horner_ok _ _)) rfl trivial ?_ | refine callW0 (plus_s _ _ (askC_ok H d i) (emod_ok _)) rfl trivial ?_ | refine d_end (i+1) [(0, 0), (1, 1), (2, 2), (3, 3)] (d_sub _ ?_ ?_) ?_ | with_reducible refine Br.dec (fun _ => ?_) (fun _ => ?_) | with_reducible refine Br.decn (fun _ => ?_) (fun _ => ?_) | with_reducible refine d_left [] ?_ ?_ | exact rfl | exact Nat.le_of_ble_eq_true rfl | (refine Nat.le_of_eq ?_; simp [rows, seqI]; done) | refine call_go rfl rfl [] ?_ | (refine Hid.mk ?_; first | decide | omega | (simp <;> omega) | (intro e; subst e; omega) | (intro e; subst e; simp_all; done) | exact Prod.ext (by omega) (by omega))) <;> conv => whnf)
    all_goals (first | exact hrow _ _ lv | exact hrow _ _ lU | exact hrow _ _ lW | exact hrow _ _ lV | exact hrow _ _ t1 | exact hrow _ _ t2 | exact hrow _ _ lH | skip)
    · exact ⟨rfl⟩
    · exact ⟨by rw [askC, s2_, horner_at]⟩
    · obtain rfl : i = n := by omega
      repeat' ((first | (with_reducible first | refine d_chk ?_ | refine Br.tt ?_ | refine Br.ff ?_ | refine Br.beq ?_ | refine Br.bne ?_ | refine Br.nt ?_ | refine Br.nf ?_ | refine d_wrap ?_ | refine d_rem ?_ | refine d_nat ?_ | refine d_get (by omega) ?_ | refine Br.yesd ?_ | refine Br.nod ?_ | refine Br.yesn ?_ | refine Br.nodn ?_ | refine d_le ?_ | refine d_lt ?_ | refine And.intro ?_ ?_ | exact trivial | exact .inr rfl | rfl | refine sc_int | refine sc_bt ?_ | refine sc_bf ?_ | refine sc_bb ?_ | refine sc_bh ?_ | refine sc_ih ?_) | refine callW0 (power_s d i hd (by omega)) rfl trivial ?_ | (refine callWl (f := 202) (total_s v ov (by omega)) trivial ?_ ?_; focus ((repeat' (first | exact trivial | exact rfl | exact .inr rfl | exact .inl rfl | exact rows_al' _ _ lv | refine And.intro ?_ ?_)); done)) | refine callW0 (minus_s _ _ (askS_ok v v.length) o1) rfl trivial ?_ | refine callW0 (times_s _ _ (askW_ok d i) (emod_ok _)) rfl trivial ?_ | refine callW0 (plus_s _ _ (askC_ok H d i) (emod_ok _)) rfl trivial ?_ | refine c_send rfl rfl rfl rfl (Nat.le_of_ble_eq_true rfl) ?_ | refine c_close rfl rfl rfl ?_ | (refine ⟨0, rfl, ?_⟩) | (refine ⟨4, rfl, ?_⟩) | with_reducible refine Br.dec (fun _ => ?_) (fun _ => ?_) | with_reducible refine Br.decn (fun _ => ?_) (fun _ => ?_) | with_reducible refine d_left [] ?_ ?_ | exact rfl | exact Nat.le_of_ble_eq_true rfl | (refine Nat.le_of_eq ?_; simp [rows, seqI]; done) | refine call_go rfl rfl [] ?_ | (refine Hid.mk ?_; first | decide | omega | (simp <;> omega) | (intro e; subst e; omega) | (intro e; subst e; simp_all; done) | exact Prod.ext (by omega) (by omega))) <;> conv => whnf)
      all_goals (first | exact hrow _ _ lv | skip)
      obtain ⟨s, hs⟩ : ∃ s, s = (askC H d i + askW d i * ((askS v v.length - 1) % 31) % 31) % 31 := ⟨_, rfl⟩
      rw [← hs]
      refine AW.loopP (fun j : Nat => ⟨[(17, .own 1 1 0 j none), (84, .ch 0)], [(0, some (.ch 4 (([p1, p2, p3, s].drop j).map cn) true)), (1, some (.row 1 (rows ci ([p1, p2, p3, s].take j))))], 2⟩) (fun j => j ≤ 4) (fun j => 4 - j) 0 [(0, 3), (1, 4)] (d_sub _ ?_ ?_) (by omega) (fun j hj => ?_)
      · (conv => whnf)
        repeat' ((first | (with_reducible first | refine d_chk ?_ | refine Br.tt ?_ | refine Br.ff ?_ | refine Br.beq ?_ | refine Br.bne ?_ | refine Br.nt ?_ | refine Br.nf ?_ | refine d_wrap ?_ | refine d_rem ?_ | refine d_nat ?_ | refine d_get (by omega) ?_ | refine Br.yesd ?_ | refine Br.nod ?_ | refine Br.yesn ?_ | refine Br.nodn ?_ | refine d_le ?_ | refine d_lt ?_ | refine And.intro ?_ ?_ | exact trivial | exact .inr rfl | rfl | refine sc_int | refine sc_bt ?_ | refine sc_bf ?_ | refine sc_bb ?_ | refine sc_bh ?_ | refine sc_ih ?_) | with_reducible refine Br.dec (fun _ => ?_) (fun _ => ?_) | with_reducible refine Br.decn (fun _ => ?_) (fun _ => ?_) | with_reducible refine d_left [] ?_ ?_ | exact rfl | exact Nat.le_of_ble_eq_true rfl | (refine Nat.le_of_eq ?_; simp [rows, seqI]; done) | refine call_go rfl rfl [] ?_ | (refine Hid.mk ?_; first | decide | omega | (simp <;> omega) | (intro e; subst e; omega) | (intro e; subst e; simp_all; done) | exact Prod.ext (by omega) (by omega))) <;> conv => whnf)
        exact .inl rfl
      · (conv => whnf)
        repeat' ((first | (with_reducible first | refine d_chk ?_ | refine Br.tt ?_ | refine Br.ff ?_ | refine Br.beq ?_ | refine Br.bne ?_ | refine Br.nt ?_ | refine Br.nf ?_ | refine d_wrap ?_ | refine d_rem ?_ | refine d_nat ?_ | refine d_get (by omega) ?_ | refine Br.yesd ?_ | refine Br.nod ?_ | refine Br.yesn ?_ | refine Br.nodn ?_ | refine d_le ?_ | refine d_lt ?_ | refine And.intro ?_ ?_ | exact trivial | exact .inr rfl | rfl | refine sc_int | refine sc_bt ?_ | refine sc_bf ?_ | refine sc_bb ?_ | refine sc_bh ?_ | refine sc_ih ?_) | with_reducible refine Br.dec (fun _ => ?_) (fun _ => ?_) | with_reducible refine Br.decn (fun _ => ?_) (fun _ => ?_) | with_reducible refine d_left [] ?_ ?_ | exact rfl | exact Nat.le_of_ble_eq_true rfl | (refine Nat.le_of_eq ?_; simp [rows, seqI]; done) | refine call_go rfl rfl [] ?_ | (refine Hid.mk ?_; first | decide | omega | (simp <;> omega) | (intro e; subst e; omega) | (intro e; subst e; simp_all; done) | exact Prod.ext (by omega) (by omega))) <;> conv => whnf)
      have hc : j = 0 ∨ j = 1 ∨ j = 2 ∨ j = 3 ∨ j = 4 := by omega
      rcases hc with rfl | rfl | rfl | rfl | rfl <;> (conv => whnf) <;>
      repeat' ((first | (with_reducible first | refine d_chk ?_ | refine Br.tt ?_ | refine Br.ff ?_ | refine Br.beq ?_ | refine Br.bne ?_ | refine Br.nt ?_ | refine Br.nf ?_ | refine d_wrap ?_ | refine d_rem ?_ | refine d_nat ?_ | refine d_get (by omega) ?_ | refine Br.yesd ?_ | refine Br.nod ?_ | refine Br.yesn ?_ | refine Br.nodn ?_ | refine d_le ?_ | refine d_lt ?_ | refine And.intro ?_ ?_ | exact trivial | exact .inr rfl | rfl | refine sc_int | refine sc_bt ?_ | refine sc_bf ?_ | refine sc_bb ?_ | refine sc_bh ?_ | refine sc_ih ?_) | refine c_recv rfl hu rfl rfl rfl ?_ | refine c_over rfl hu rfl rfl rfl rfl ?_ | refine d_end 1 [(0, 0), (1, 3)] (d_sub _ ?_ ?_) ?_ | refine d_end 2 [(0, 0), (1, 3)] (d_sub _ ?_ ?_) ?_ | refine d_end 3 [(0, 0), (1, 3)] (d_sub _ ?_ ?_) ?_ | refine d_end 4 [(0, 0), (1, 3)] (d_sub _ ?_ ?_) ?_ | with_reducible refine d_left [(0, 1)] ?_ ?_ | with_reducible refine Br.dec (fun _ => ?_) (fun _ => ?_) | with_reducible refine Br.decn (fun _ => ?_) (fun _ => ?_) | with_reducible refine d_left [] ?_ ?_ | exact rfl | exact Nat.le_of_ble_eq_true rfl | (refine Nat.le_of_eq ?_; simp [rows, seqI]; done) | refine call_go rfl rfl [] ?_ | (refine Hid.mk ?_; first | decide | omega | (simp <;> omega) | (intro e; subst e; omega) | (intro e; subst e; simp_all; done) | exact Prod.ext (by omega) (by omega))) <;> conv => whnf)
      rw [hs, if_pos (by first | omega | (simp_all; done)), ← hF, lv]
      rfl
    · obtain rfl : i = n := by omega
      repeat' ((first | (with_reducible first | refine d_chk ?_ | refine Br.tt ?_ | refine Br.ff ?_ | refine Br.beq ?_ | refine Br.bne ?_ | refine Br.nt ?_ | refine Br.nf ?_ | refine d_wrap ?_ | refine d_rem ?_ | refine d_nat ?_ | refine d_get (by omega) ?_ | refine Br.yesd ?_ | refine Br.nod ?_ | refine Br.yesn ?_ | refine Br.nodn ?_ | refine d_le ?_ | refine d_lt ?_ | refine And.intro ?_ ?_ | exact trivial | exact .inr rfl | rfl | refine sc_int | refine sc_bt ?_ | refine sc_bf ?_ | refine sc_bb ?_ | refine sc_bh ?_ | refine sc_ih ?_) | refine c_send rfl rfl rfl rfl (Nat.le_of_ble_eq_true rfl) ?_ | refine c_close rfl rfl rfl ?_ | (refine ⟨0, rfl, ?_⟩) | (refine ⟨4, rfl, ?_⟩) | with_reducible refine Br.dec (fun _ => ?_) (fun _ => ?_) | with_reducible refine Br.decn (fun _ => ?_) (fun _ => ?_) | with_reducible refine d_left [] ?_ ?_ | exact rfl | exact Nat.le_of_ble_eq_true rfl | (refine Nat.le_of_eq ?_; simp [rows, seqI]; done) | refine call_go rfl rfl [] ?_ | (refine Hid.mk ?_; first | decide | omega | (simp <;> omega) | (intro e; subst e; omega) | (intro e; subst e; simp_all; done) | exact Prod.ext (by omega) (by omega))) <;> conv => whnf)
      all_goals (first | exact hrow _ _ lv | skip)
      obtain ⟨s, hs⟩ : ∃ s, s = askC H d i := ⟨_, rfl⟩
      rw [← hs]
      refine AW.loopP (fun j : Nat => ⟨[(17, .own 1 1 0 j none), (84, .ch 0)], [(0, some (.ch 4 (([p1, p2, p3, s].drop j).map cn) true)), (1, some (.row 1 (rows ci ([p1, p2, p3, s].take j))))], 2⟩) (fun j => j ≤ 4) (fun j => 4 - j) 0 [(0, 3), (1, 4)] (d_sub _ ?_ ?_) (by omega) (fun j hj => ?_)
      · (conv => whnf)
        repeat' ((first | (with_reducible first | refine d_chk ?_ | refine Br.tt ?_ | refine Br.ff ?_ | refine Br.beq ?_ | refine Br.bne ?_ | refine Br.nt ?_ | refine Br.nf ?_ | refine d_wrap ?_ | refine d_rem ?_ | refine d_nat ?_ | refine d_get (by omega) ?_ | refine Br.yesd ?_ | refine Br.nod ?_ | refine Br.yesn ?_ | refine Br.nodn ?_ | refine d_le ?_ | refine d_lt ?_ | refine And.intro ?_ ?_ | exact trivial | exact .inr rfl | rfl | refine sc_int | refine sc_bt ?_ | refine sc_bf ?_ | refine sc_bb ?_ | refine sc_bh ?_ | refine sc_ih ?_) | with_reducible refine Br.dec (fun _ => ?_) (fun _ => ?_) | with_reducible refine Br.decn (fun _ => ?_) (fun _ => ?_) | with_reducible refine d_left [] ?_ ?_ | exact rfl | exact Nat.le_of_ble_eq_true rfl | (refine Nat.le_of_eq ?_; simp [rows, seqI]; done) | refine call_go rfl rfl [] ?_ | (refine Hid.mk ?_; first | decide | omega | (simp <;> omega) | (intro e; subst e; omega) | (intro e; subst e; simp_all; done) | exact Prod.ext (by omega) (by omega))) <;> conv => whnf)
        exact .inl rfl
      · (conv => whnf)
        repeat' ((first | (with_reducible first | refine d_chk ?_ | refine Br.tt ?_ | refine Br.ff ?_ | refine Br.beq ?_ | refine Br.bne ?_ | refine Br.nt ?_ | refine Br.nf ?_ | refine d_wrap ?_ | refine d_rem ?_ | refine d_nat ?_ | refine d_get (by omega) ?_ | refine Br.yesd ?_ | refine Br.nod ?_ | refine Br.yesn ?_ | refine Br.nodn ?_ | refine d_le ?_ | refine d_lt ?_ | refine And.intro ?_ ?_ | exact trivial | exact .inr rfl | rfl | refine sc_int | refine sc_bt ?_ | refine sc_bf ?_ | refine sc_bb ?_ | refine sc_bh ?_ | refine sc_ih ?_) | with_reducible refine Br.dec (fun _ => ?_) (fun _ => ?_) | with_reducible refine Br.decn (fun _ => ?_) (fun _ => ?_) | with_reducible refine d_left [] ?_ ?_ | exact rfl | exact Nat.le_of_ble_eq_true rfl | (refine Nat.le_of_eq ?_; simp [rows, seqI]; done) | refine call_go rfl rfl [] ?_ | (refine Hid.mk ?_; first | decide | omega | (simp <;> omega) | (intro e; subst e; omega) | (intro e; subst e; simp_all; done) | exact Prod.ext (by omega) (by omega))) <;> conv => whnf)
      have hc : j = 0 ∨ j = 1 ∨ j = 2 ∨ j = 3 ∨ j = 4 := by omega
      rcases hc with rfl | rfl | rfl | rfl | rfl <;> (conv => whnf) <;>
      repeat' ((first | (with_reducible first | refine d_chk ?_ | refine Br.tt ?_ | refine Br.ff ?_ | refine Br.beq ?_ | refine Br.bne ?_ | refine Br.nt ?_ | refine Br.nf ?_ | refine d_wrap ?_ | refine d_rem ?_ | refine d_nat ?_ | refine d_get (by omega) ?_ | refine Br.yesd ?_ | refine Br.nod ?_ | refine Br.yesn ?_ | refine Br.nodn ?_ | refine d_le ?_ | refine d_lt ?_ | refine And.intro ?_ ?_ | exact trivial | exact .inr rfl | rfl | refine sc_int | refine sc_bt ?_ | refine sc_bf ?_ | refine sc_bb ?_ | refine sc_bh ?_ | refine sc_ih ?_) | refine c_recv rfl hu rfl rfl rfl ?_ | refine c_over rfl hu rfl rfl rfl rfl ?_ | refine d_end 1 [(0, 0), (1, 3)] (d_sub _ ?_ ?_) ?_ | refine d_end 2 [(0, 0), (1, 3)] (d_sub _ ?_ ?_) ?_ | refine d_end 3 [(0, 0), (1, 3)] (d_sub _ ?_ ?_) ?_ | refine d_end 4 [(0, 0), (1, 3)] (d_sub _ ?_ ?_) ?_ | with_reducible refine d_left [(0, 1)] ?_ ?_ | with_reducible refine Br.dec (fun _ => ?_) (fun _ => ?_) | with_reducible refine Br.decn (fun _ => ?_) (fun _ => ?_) | with_reducible refine d_left [] ?_ ?_ | exact rfl | exact Nat.le_of_ble_eq_true rfl | (refine Nat.le_of_eq ?_; simp [rows, seqI]; done) | refine call_go rfl rfl [] ?_ | (refine Hid.mk ?_; first | decide | omega | (simp <;> omega) | (intro e; subst e; omega) | (intro e; subst e; simp_all; done) | exact Prod.ext (by omega) (by omega))) <;> conv => whnf)
      rw [hs, if_neg (by first | omega | (simp_all; done))]
      rfl
end Go.Proofs.YtdjoodbidcncaaaGreatDoor.AW

/- A report is asked and decided on, by the program. -/
namespace Go.Proofs.YtdjoodbidcncaaaGreatDoor.AW
open Go Go.Conc
set_option maxRecDepth 10000
theorem QueryMay_s (k at_ : Int) : Spec ctx 152 [iv .i64 k, iv .i64 at_] [] (bv (decide (QMay k at_))) [] := by
  have hL := lenOf_le k
  by_cases hk : 1 ≤ k ∧ k ≤ 3
  · refine spec_mk ctx_mixed ctx_enters 0 Tryz.func152 rfl rfl (Nat.le_of_ble_eq_true rfl) 0 rfl ?_; conv => whnf
    repeat' ((first | (with_reducible first | refine d_chk ?_ | refine Br.tt ?_ | refine Br.ff ?_ | refine Br.beq ?_ | refine Br.bne ?_ | refine Br.nt ?_ | refine Br.nf ?_ | refine d_wrap ?_ | refine d_rem ?_ | refine d_nat ?_ | refine d_get (by omega) ?_ | refine Br.yesd ?_ | refine Br.nod ?_ | refine Br.yesn ?_ | refine Br.nodn ?_ | refine d_le ?_ | refine d_lt ?_ | refine And.intro ?_ ?_ | exact trivial | exact .inr rfl | rfl | refine sc_int | refine sc_bt ?_ | refine sc_bf ?_ | refine sc_bb ?_ | refine sc_bh ?_ | refine sc_ih ?_) | refine callW0 (kindOk_s _) rfl trivial ?_ | refine callW0 (iTypeLen_s _ hk) rfl trivial ?_ | refine callW0 (within_s _ _ _) rfl trivial ?_ | with_reducible refine Br.dec (fun _ => ?_) (fun _ => ?_) | with_reducible refine Br.decn (fun _ => ?_) (fun _ => ?_) | with_reducible refine d_left [] ?_ ?_ | exact rfl | exact Nat.le_of_ble_eq_true rfl | (refine Nat.le_of_eq ?_; simp [rows, seqI]; done) | refine call_go rfl rfl [] ?_ | (refine Hid.mk ?_; first | decide | omega | (simp <;> omega) | (intro e; subst e; omega) | (intro e; subst e; simp_all; done) | exact Prod.ext (by omega) (by omega))) <;> conv => whnf)
    all_goals (refine ⟨?_⟩; unfold QMay; first | omega | (simp_all; done))
  · refine spec_mk ctx_mixed ctx_enters 0 Tryz.func152 rfl rfl (Nat.le_of_ble_eq_true rfl) 0 rfl ?_; conv => whnf
    repeat' ((first | (with_reducible first | refine d_chk ?_ | refine Br.tt ?_ | refine Br.ff ?_ | refine Br.beq ?_ | refine Br.bne ?_ | refine Br.nt ?_ | refine Br.nf ?_ | refine d_wrap ?_ | refine d_rem ?_ | refine d_nat ?_ | refine d_get (by omega) ?_ | refine Br.yesd ?_ | refine Br.nod ?_ | refine Br.yesn ?_ | refine Br.nodn ?_ | refine d_le ?_ | refine d_lt ?_ | refine And.intro ?_ ?_ | exact trivial | exact .inr rfl | rfl | refine sc_int | refine sc_bt ?_ | refine sc_bf ?_ | refine sc_bb ?_ | refine sc_bh ?_ | refine sc_ih ?_) | refine callW0 (kindOk_s _) rfl trivial ?_ | with_reducible refine Br.dec (fun _ => ?_) (fun _ => ?_) | with_reducible refine Br.decn (fun _ => ?_) (fun _ => ?_) | with_reducible refine d_left [] ?_ ?_ | exact rfl | exact Nat.le_of_ble_eq_true rfl | (refine Nat.le_of_eq ?_; simp [rows, seqI]; done) | refine call_go rfl rfl [] ?_ | (refine Hid.mk ?_; first | decide | omega | (simp <;> omega) | (intro e; subst e; omega) | (intro e; subst e; simp_all; done) | exact Prod.ext (by omega) (by omega))) <;> conv => whnf)
    all_goals (refine ⟨?_⟩; unfold QMay; first | omega | (simp_all; done))
theorem QueryAsk_s (k : Int) (l : List Int) (f : Bool) (at_ d : Int) (hk : 1 ≤ k ∧ k ≤ 3) (hl : (l.length : Int) = 3 * lenOf k + 3) (ho : allE l) (hq : QMay k at_) (hd : okE d) (n : Nat) (hn : (n : Int) = lenOf k) : Spec ctx 102 [iv .i64 k, sl l none, bv f, iv .i64 at_, iv .i64 d] [] (.tup [.own 0 1 0 4 none, bv true]) [(0, some (.row 1 (rows ci (ask k l (if f then 1 else 0) at_ d n))))] := by
  have hL := lenOf_le k
  have oa : okE at_ := by unfold QMay at hq; omega
  have s1 := iask_s k l f at_ d hk hl ho oa hd n hn
  have sQ := QueryMay_s k at_
  rw [decide_eq_true hq] at sQ
  have sE := FieldOk_s d
  rw [decide_eq_true hd] at sE
  have sP := iProofLen_s k
  rw [if_pos hk] at sP
  have sZ := sized_s k (3 * lenOf k + 3) l (by omega)
  rw [decide_eq_true ⟨hk, hl, by omega, ho⟩] at sZ
  refine spec_mk ctx_mixed ctx_enters 5 Tryz.func102 rfl rfl (Nat.le_of_ble_eq_true rfl) 0 rfl ?_; conv => whnf
  repeat' ((first | (with_reducible first | refine d_chk ?_ | refine Br.tt ?_ | refine Br.ff ?_ | refine Br.beq ?_ | refine Br.bne ?_ | refine Br.nt ?_ | refine Br.nf ?_ | refine d_wrap ?_ | refine d_rem ?_ | refine d_nat ?_ | refine d_get (by omega) ?_ | refine Br.yesd ?_ | refine Br.nod ?_ | refine Br.yesn ?_ | refine Br.nodn ?_ | refine d_le ?_ | refine d_lt ?_ | refine And.intro ?_ ?_ | exact trivial | exact .inr rfl | rfl | refine sc_int | refine sc_bt ?_ | refine sc_bf ?_ | refine sc_bb ?_ | refine sc_bh ?_ | refine sc_ih ?_) | refine callW0 sQ rfl trivial ?_ | refine callW0 sE rfl trivial ?_ | refine callW0 sP rfl trivial ?_ | refine callW0 sZ rfl trivial ?_ | refine callWn s1 1 rfl ⟨trivial, rows_sc _, trivial⟩ ?_ | with_reducible refine d_left [(0, 0)] ?_ ?_ | with_reducible refine Br.dec (fun _ => ?_) (fun _ => ?_) | with_reducible refine Br.decn (fun _ => ?_) (fun _ => ?_) | with_reducible refine d_left [] ?_ ?_ | exact rfl | exact Nat.le_of_ble_eq_true rfl | (refine Nat.le_of_eq ?_; simp [rows, seqI]; done) | refine call_go rfl rfl [] ?_ | (refine Hid.mk ?_; first | decide | omega | (simp <;> omega) | (intro e; subst e; omega) | (intro e; subst e; simp_all; done) | exact Prod.ext (by omega) (by omega))) <;> conv => whnf)
theorem QueryAsk_n (k : Int) (l : List Int) (f : Bool) (at_ d : Int) (hl : l.length ≤ 1100000) (h : ¬ (QMay k at_ ∧ okE d)) : Spec ctx 102 [iv .i64 k, sl l none, bv f, iv .i64 at_, iv .i64 d] [] (.tup [nilS, bv false]) [] := by
  refine spec_mk ctx_mixed ctx_enters 0 Tryz.func102 rfl rfl (Nat.le_of_ble_eq_true rfl) 0 rfl ?_; conv => whnf
  repeat' ((first | (with_reducible first | refine d_chk ?_ | refine Br.tt ?_ | refine Br.ff ?_ | refine Br.beq ?_ | refine Br.bne ?_ | refine Br.nt ?_ | refine Br.nf ?_ | refine d_wrap ?_ | refine d_rem ?_ | refine d_nat ?_ | refine d_get (by omega) ?_ | refine Br.yesd ?_ | refine Br.nod ?_ | refine Br.yesn ?_ | refine Br.nodn ?_ | refine d_le ?_ | refine d_lt ?_ | refine And.intro ?_ ?_ | exact trivial | exact .inr rfl | rfl | refine sc_int | refine sc_bt ?_ | refine sc_bf ?_ | refine sc_bb ?_ | refine sc_bh ?_ | refine sc_ih ?_) | refine callW0 (QueryMay_s _ _) rfl trivial ?_ | refine callW0 (FieldOk_s _) rfl trivial ?_ | exact absurd ⟨by assumption, by assumption⟩ h | with_reducible refine Br.dec (fun _ => ?_) (fun _ => ?_) | with_reducible refine Br.decn (fun _ => ?_) (fun _ => ?_) | with_reducible refine d_left [] ?_ ?_ | exact rfl | exact Nat.le_of_ble_eq_true rfl | (refine Nat.le_of_eq ?_; simp [rows, seqI]; done) | refine call_go rfl rfl [] ?_ | (refine Hid.mk ?_; first | decide | omega | (simp <;> omega) | (intro e; subst e; omega) | (intro e; subst e; simp_all; done) | exact Prod.ext (by omega) (by omega))) <;> conv => whnf)
theorem QueryDecide_s (a b : List Int) (ha : a.length = 4) (hb : b.length = 4) (oa : allE a) (ob : allE b) : Spec ctx 103 [sl a none, sl b none] [] (bv (decide (l13dec a b))) [] := by
  have e1 := elementsOk_s a 4 (by omega)
  have e2 := elementsOk_s b 4 (by omega)
  rw [decide_eq_true ⟨by omega, oa⟩] at e1
  rw [decide_eq_true ⟨by omega, ob⟩] at e2
  match a, b, ha, hb with
  | [a0, a1, a2, a3], [b0, b1, b2, b3], _, _ =>
  have A0 : okE a0 := oa _ (by simp)
  have A1 : okE a1 := oa _ (by simp)
  have A2 : okE a2 := oa _ (by simp)
  have A3 : okE a3 := oa _ (by simp)
  have B0 : okE b0 := ob _ (by simp)
  have B1 : okE b1 := ob _ (by simp)
  have B2 : okE b2 := ob _ (by simp)
  have B3 : okE b3 := ob _ (by simp)
  have hz : zipE fsum [a0, a1, a2, a3] [b0, b1, b2, b3] = [(a0 + b0) % 31, (a1 + b1) % 31, (a2 + b2) % 31, (a3 + b3) % 31] := by
    simp only [zipE, List.zipWith, fsum]
    rw [if_pos ⟨A0, B0⟩, if_pos ⟨A1, B1⟩, if_pos ⟨A2, B2⟩, if_pos ⟨A3, B3⟩]
  have e : decide (l13dec [a0, a1, a2, a3] [b0, b1, b2, b3]) = decide (((a0 + b0) % 31 * ((a1 + b1) % 31)) % 31 = (a2 + b2) % 31 ∧ (a3 + b3) % 31 = 0) := by
    refine decide_eq_decide.2 ?_
    have h0 := emod_ok (a0 + b0)
    have h1 := emod_ok (a1 + b1)
    unfold l13dec
    rw [hz]
    simp only [List.getD_cons_zero, List.getD_cons_succ, fmul]
    rw [if_pos ⟨h0, h1⟩]
  rw [e]
  have la : (rows ci [a0, a1, a2, a3]).length = 4 := rfl
  have lb : (rows ci [b0, b1, b2, b3]).length = 4 := rfl
  refine spec_mk ctx_mixed ctx_enters 0 Tryz.func103 rfl rfl (Nat.le_of_ble_eq_true rfl) 0 rfl ?_; conv => whnf
  repeat' ((first | (with_reducible first | refine d_chk ?_ | refine Br.tt ?_ | refine Br.ff ?_ | refine Br.beq ?_ | refine Br.bne ?_ | refine Br.nt ?_ | refine Br.nf ?_ | refine d_wrap ?_ | refine d_rem ?_ | refine d_nat ?_ | refine d_get (by omega) ?_ | refine Br.yesd ?_ | refine Br.nod ?_ | refine Br.yesn ?_ | refine Br.nodn ?_ | refine d_le ?_ | refine d_lt ?_ | refine And.intro ?_ ?_ | exact trivial | exact .inr rfl | rfl | refine sc_int | refine sc_bt ?_ | refine sc_bf ?_ | refine sc_bb ?_ | refine sc_bh ?_ | refine sc_ih ?_) | refine callW0 e1 rfl trivial ?_ | refine callW0 e2 rfl trivial ?_ | with_reducible refine Br.dec (fun _ => ?_) (fun _ => ?_) | with_reducible refine Br.decn (fun _ => ?_) (fun _ => ?_) | with_reducible refine d_left [] ?_ ?_ | exact rfl | exact Nat.le_of_ble_eq_true rfl | (refine Nat.le_of_eq ?_; simp [rows, seqI]; done) | refine call_go rfl rfl [] ?_ | (refine Hid.mk ?_; first | decide | omega | (simp <;> omega) | (intro e; subst e; omega) | (intro e; subst e; simp_all; done) | exact Prod.ext (by omega) (by omega))) <;> conv => whnf)
  refine AW.loopP (fun i : Nat => ⟨[(0, sl [a0, a1, a2, a3] none), (1, sl [b0, b1, b2, b3] none), (5, .ptr 0 1 0 0), (25, iv .i64 i)], [(0, some (.row 1 (rows ci ([(a0 + b0) % 31, (a1 + b1) % 31, (a2 + b2) % 31, (a3 + b3) % 31].take i ++ List.replicate (4 - i) 0))))], 1⟩) (fun i => i ≤ 4) (fun i => 4 - i) 0 [(0, 0)] (d_sub _ ?_ ?_) (by omega) (fun i hi => ?_)
  · (conv => whnf)
    repeat' ((first | (with_reducible first | refine d_chk ?_ | refine Br.tt ?_ | refine Br.ff ?_ | refine Br.beq ?_ | refine Br.bne ?_ | refine Br.nt ?_ | refine Br.nf ?_ | refine d_wrap ?_ | refine d_rem ?_ | refine d_nat ?_ | refine d_get (by omega) ?_ | refine Br.yesd ?_ | refine Br.nod ?_ | refine Br.yesn ?_ | refine Br.nodn ?_ | refine d_le ?_ | refine d_lt ?_ | refine And.intro ?_ ?_ | exact trivial | exact .inr rfl | rfl | refine sc_int | refine sc_bt ?_ | refine sc_bf ?_ | refine sc_bb ?_ | refine sc_bh ?_ | refine sc_ih ?_) | with_reducible refine Br.dec (fun _ => ?_) (fun _ => ?_) | with_reducible refine Br.decn (fun _ => ?_) (fun _ => ?_) | with_reducible refine d_left [] ?_ ?_ | exact rfl | exact Nat.le_of_ble_eq_true rfl | (refine Nat.le_of_eq ?_; simp [rows, seqI]; done) | refine call_go rfl rfl [] ?_ | (refine Hid.mk ?_; first | decide | omega | (simp <;> omega) | (intro e; subst e; omega) | (intro e; subst e; simp_all; done) | exact Prod.ext (by omega) (by omega))) <;> conv => whnf)
  · (conv => whnf)
    repeat' ((first | (with_reducible first | refine d_chk ?_ | refine Br.tt ?_ | refine Br.ff ?_ | refine Br.beq ?_ | refine Br.bne ?_ | refine Br.nt ?_ | refine Br.nf ?_ | refine d_wrap ?_ | refine d_rem ?_ | refine d_nat ?_ | refine d_get (by omega) ?_ | refine Br.yesd ?_ | refine Br.nod ?_ | refine Br.yesn ?_ | refine Br.nodn ?_ | refine d_le ?_ | refine d_lt ?_ | refine And.intro ?_ ?_ | exact trivial | exact .inr rfl | rfl | refine sc_int | refine sc_bt ?_ | refine sc_bf ?_ | refine sc_bb ?_ | refine sc_bh ?_ | refine sc_ih ?_) | with_reducible refine Br.dec (fun _ => ?_) (fun _ => ?_) | with_reducible refine Br.decn (fun _ => ?_) (fun _ => ?_) | with_reducible refine d_left [] ?_ ?_ | exact rfl | exact Nat.le_of_ble_eq_true rfl | (refine Nat.le_of_eq ?_; simp [rows, seqI]; done) | refine call_go rfl rfl [] ?_ | (refine Hid.mk ?_; first | decide | omega | (simp <;> omega) | (intro e; subst e; omega) | (intro e; subst e; simp_all; done) | exact Prod.ext (by omega) (by omega))) <;> conv => whnf)
  have hc : i = 0 ∨ i = 1 ∨ i = 2 ∨ i = 3 ∨ i = 4 := by omega
  rcases hc with rfl | rfl | rfl | rfl | rfl <;> (conv => whnf) <;>
  repeat' ((first | (with_reducible first | refine d_chk ?_ | refine Br.tt ?_ | refine Br.ff ?_ | refine Br.beq ?_ | refine Br.bne ?_ | refine Br.nt ?_ | refine Br.nf ?_ | refine d_wrap ?_ | refine d_rem ?_ | refine d_nat ?_ | refine d_get (by omega) ?_ | refine Br.yesd ?_ | refine Br.nod ?_ | refine Br.yesn ?_ | refine Br.nodn ?_ | refine d_le ?_ | refine d_lt ?_ | refine And.intro ?_ ?_ | exact trivial | exact .inr rfl | rfl | refine sc_int | refine sc_bt ?_ | refine sc_bf ?_ | refine sc_bb ?_ | refine sc_bh ?_ | refine sc_ih ?_) | refine callW0 (plus_s a0 b0 A0 B0) rfl trivial ?_ | refine callW0 (plus_s a1 b1 A1 B1) rfl trivial ?_ | refine callW0 (plus_s a2 b2 A2 B2) rfl trivial ?_ | refine callW0 (plus_s a3 b3 A3 B3) rfl trivial ?_ | refine callW0 (times_s _ _ (emod_ok _) (emod_ok _)) rfl trivial ?_ | (refine ⟨_, rfl, Nat.le_of_ble_eq_true rfl, ?_⟩) | (refine ⟨0, rfl, ?_⟩) | (refine ⟨1, rfl, ?_⟩) | (refine ⟨2, rfl, ?_⟩) | (refine ⟨3, rfl, ?_⟩) | (refine ⟨_, rfl, ?_⟩) | refine d_end 1 [(0, 0)] (d_sub _ ?_ ?_) ?_ | refine d_end 2 [(0, 0)] (d_sub _ ?_ ?_) ?_ | refine d_end 3 [(0, 0)] (d_sub _ ?_ ?_) ?_ | refine d_end 4 [(0, 0)] (d_sub _ ?_ ?_) ?_ | with_reducible refine Br.dec (fun _ => ?_) (fun _ => ?_) | with_reducible refine Br.decn (fun _ => ?_) (fun _ => ?_) | with_reducible refine d_left [] ?_ ?_ | exact rfl | exact Nat.le_of_ble_eq_true rfl | (refine Nat.le_of_eq ?_; simp [rows, seqI]; done) | refine call_go rfl rfl [] ?_ | (refine Hid.mk ?_; first | decide | omega | (simp <;> omega) | (intro e; subst e; omega) | (intro e; subst e; simp_all; done) | exact Prod.ext (by omega) (by omega))) <;> conv => whnf)
theorem PartsFit_s (a b : Prt) (ha : a.list.length ≤ 1100000) (hb : b.list.length ≤ 1100000) : Spec ctx 44 [prA a, prA b] [] (bv (decide (PFit a b))) [] := by
  refine spec_mk ctx_mixed ctx_enters 0 Tryz.func44 rfl rfl (Nat.le_of_ble_eq_true rfl) 0 rfl ?_; conv => whnf
  repeat' ((first | (with_reducible first | refine d_chk ?_ | refine Br.tt ?_ | refine Br.ff ?_ | refine Br.beq ?_ | refine Br.bne ?_ | refine Br.nt ?_ | refine Br.nf ?_ | refine d_wrap ?_ | refine d_rem ?_ | refine d_nat ?_ | refine d_get (by omega) ?_ | refine Br.yesd ?_ | refine Br.nod ?_ | refine Br.yesn ?_ | refine Br.nodn ?_ | refine d_le ?_ | refine d_lt ?_ | refine And.intro ?_ ?_ | exact trivial | exact .inr rfl | rfl | refine sc_int | refine sc_bt ?_ | refine sc_bf ?_ | refine sc_bb ?_ | refine sc_bh ?_ | refine sc_ih ?_) | refine callW0 (iPartOk_s a ha) rfl trivial ?_ | refine callW0 (iPartOk_s b hb) rfl trivial ?_ | with_reducible refine Br.dec (fun _ => ?_) (fun _ => ?_) | with_reducible refine Br.decn (fun _ => ?_) (fun _ => ?_) | with_reducible refine d_left [] ?_ ?_ | exact rfl | exact Nat.le_of_ble_eq_true rfl | (refine Nat.le_of_eq ?_; simp [rows, seqI]; done) | refine call_go rfl rfl [] ?_ | (refine Hid.mk ?_; first | decide | omega | (simp <;> omega) | (intro e; subst e; omega) | (intro e; subst e; simp_all; done) | exact Prod.ext (by omega) (by omega))) <;> conv => whnf)
  all_goals (refine ⟨?_⟩; unfold PFit FitP; first | omega | (simp_all; done))
theorem ask_ok (k : Int) (l : List Int) (one at_ d : Int) (n : Nat) : allE (ask k l one at_ d n) := fun x hx => by
  unfold ask at hx
  simp only [List.mem_cons, List.not_mem_nil, or_false] at hx
  rcases hx with rfl | rfl | rfl | rfl
  · exact l13dot_ok _ _ _
  · exact l13dot_ok _ _ _
  · exact l2at_ok _ _
  · split
    · exact emod_ok _
    · exact askC_ok _ _ _
set_option maxHeartbeats 1000000 in
theorem PartsTake_s (a b : Prt) (at_ d : Int) (ha : a.list.length ≤ 1100000) (hb : b.list.length ≤ 1100000) (n : Nat) (hn : (n : Int) = lenOf a.kind) : Spec ctx 45 [prA a, prA b, iv .i64 at_, iv .i64 d] [] (bv (decide (PTake a b at_ d n))) [] := by
  have hL := lenOf_le a.kind
  have sF := PartsFit_s a b ha hb
  by_cases h1 : PFit a b
  · rw [decide_eq_true h1] at sF
    by_cases h : QMay a.kind at_ ∧ okE d
    · obtain ⟨h2, h3⟩ := h
      have h4 := h1
      obtain ⟨⟨p1, p2, p3, p4, p5⟩, ⟨q1, q2, q3, q4, q5⟩, f1, f2, f3, f4⟩ := h4
      unfold plen at p4 q4
      rw [if_pos p2] at p4
      rw [if_pos q2] at q4
      have s1 := QueryAsk_s a.kind a.list true at_ d p2 p4 p5 h2 h3 n hn
      have s2 := QueryAsk_s b.kind b.list false at_ d q2 q4 q5 (by rw [← f2]; exact h2) h3 n (by rw [← f2]; exact hn)
      have s3 := QueryDecide_s (ask a.kind a.list 1 at_ d n) (ask b.kind b.list 0 at_ d n) rfl rfl (ask_ok _ _ _ _ _ _) (ask_ok _ _ _ _ _ _)
      rw [if_pos rfl] at s1
      rw [if_neg (by decide)] at s2
      have e : decide (PTake a b at_ d n) = decide (l13dec (ask a.kind a.list 1 at_ d n) (ask b.kind b.list 0 at_ d n)) := decide_eq_decide.2 ⟨fun g => g.2.2.2, fun g => ⟨h1, h2, h3, g⟩⟩
      rw [e]
      refine spec_mk ctx_mixed ctx_enters 0 Tryz.func45 rfl rfl (Nat.le_of_ble_eq_true rfl) 0 rfl ?_; conv => whnf
      repeat' ((first | (with_reducible first | refine d_chk ?_ | refine Br.tt ?_ | refine Br.ff ?_ | refine Br.beq ?_ | refine Br.bne ?_ | refine Br.nt ?_ | refine Br.nf ?_ | refine d_wrap ?_ | refine d_rem ?_ | refine d_nat ?_ | refine d_get (by omega) ?_ | refine Br.yesd ?_ | refine Br.nod ?_ | refine Br.yesn ?_ | refine Br.nodn ?_ | refine d_le ?_ | refine d_lt ?_ | refine And.intro ?_ ?_ | exact trivial | exact .inr rfl | rfl | refine sc_int | refine sc_bt ?_ | refine sc_bf ?_ | refine sc_bb ?_ | refine sc_bh ?_ | refine sc_ih ?_) | refine callW0 sF rfl trivial ?_ | refine callWn s1 1 rfl ⟨⟨trivial, trivial, trivial⟩, rows_sc _, trivial⟩ ?_ | refine callWn s2 1 rfl ⟨⟨trivial, trivial, trivial⟩, rows_sc _, trivial⟩ ?_ | (refine callWl (f := 103) s3 trivial ?_ ?_; focus ((repeat' (first | exact trivial | exact rfl | exact .inr rfl | exact .inl rfl | exact rows_al' _ _ rfl | refine And.intro ?_ ?_)); done)) | with_reducible refine Br.dec (fun _ => ?_) (fun _ => ?_) | with_reducible refine Br.decn (fun _ => ?_) (fun _ => ?_) | with_reducible refine d_left [] ?_ ?_ | exact rfl | exact Nat.le_of_ble_eq_true rfl | (refine Nat.le_of_eq ?_; simp [rows, seqI]; done) | refine call_go rfl rfl [] ?_ | (refine Hid.mk ?_; first | decide | omega | (simp <;> omega) | (intro e; subst e; omega) | (intro e; subst e; simp_all; done) | exact Prod.ext (by omega) (by omega))) <;> conv => whnf)
    · have e : decide (PTake a b at_ d n) = false := decide_eq_false fun g => h ⟨g.2.1, g.2.2.1⟩
      have hk : a.kind = b.kind := h1.2.2.2.1
      have s1 := QueryAsk_n a.kind a.list true at_ d ha h
      have s2 := QueryAsk_n b.kind b.list false at_ d hb (by rw [← hk]; exact h)
      rw [e]
      refine spec_mk ctx_mixed ctx_enters 0 Tryz.func45 rfl rfl (Nat.le_of_ble_eq_true rfl) 0 rfl ?_; conv => whnf
      repeat' ((first | (with_reducible first | refine d_chk ?_ | refine Br.tt ?_ | refine Br.ff ?_ | refine Br.beq ?_ | refine Br.bne ?_ | refine Br.nt ?_ | refine Br.nf ?_ | refine d_wrap ?_ | refine d_rem ?_ | refine d_nat ?_ | refine d_get (by omega) ?_ | refine Br.yesd ?_ | refine Br.nod ?_ | refine Br.yesn ?_ | refine Br.nodn ?_ | refine d_le ?_ | refine d_lt ?_ | refine And.intro ?_ ?_ | exact trivial | exact .inr rfl | rfl | refine sc_int | refine sc_bt ?_ | refine sc_bf ?_ | refine sc_bb ?_ | refine sc_bh ?_ | refine sc_ih ?_) | refine callW0 sF rfl trivial ?_ | refine callW0 s1 rfl ⟨trivial, trivial, trivial⟩ ?_ | refine callW0 s2 rfl ⟨trivial, trivial, trivial⟩ ?_ | with_reducible refine Br.dec (fun _ => ?_) (fun _ => ?_) | with_reducible refine Br.decn (fun _ => ?_) (fun _ => ?_) | with_reducible refine d_left [] ?_ ?_ | exact rfl | exact Nat.le_of_ble_eq_true rfl | (refine Nat.le_of_eq ?_; simp [rows, seqI]; done) | refine call_go rfl rfl [] ?_ | (refine Hid.mk ?_; first | decide | omega | (simp <;> omega) | (intro e; subst e; omega) | (intro e; subst e; simp_all; done) | exact Prod.ext (by omega) (by omega))) <;> conv => whnf)
  · have e : decide (PTake a b at_ d n) = false := decide_eq_false fun g => h1 g.1
    rw [decide_eq_false h1] at sF
    rw [e]
    refine spec_mk ctx_mixed ctx_enters 0 Tryz.func45 rfl rfl (Nat.le_of_ble_eq_true rfl) 0 rfl ?_; conv => whnf
    repeat' ((first | (with_reducible first | refine d_chk ?_ | refine Br.tt ?_ | refine Br.ff ?_ | refine Br.beq ?_ | refine Br.bne ?_ | refine Br.nt ?_ | refine Br.nf ?_ | refine d_wrap ?_ | refine d_rem ?_ | refine d_nat ?_ | refine d_get (by omega) ?_ | refine Br.yesd ?_ | refine Br.nod ?_ | refine Br.yesn ?_ | refine Br.nodn ?_ | refine d_le ?_ | refine d_lt ?_ | refine And.intro ?_ ?_ | exact trivial | exact .inr rfl | rfl | refine sc_int | refine sc_bt ?_ | refine sc_bf ?_ | refine sc_bb ?_ | refine sc_bh ?_ | refine sc_ih ?_) | refine callW0 sF rfl trivial ?_ | with_reducible refine Br.dec (fun _ => ?_) (fun _ => ?_) | with_reducible refine Br.decn (fun _ => ?_) (fun _ => ?_) | with_reducible refine d_left [] ?_ ?_ | exact rfl | exact Nat.le_of_ble_eq_true rfl | (refine Nat.le_of_eq ?_; simp [rows, seqI]; done) | refine call_go rfl rfl [] ?_ | (refine Hid.mk ?_; first | decide | omega | (simp <;> omega) | (intro e; subst e; omega) | (intro e; subst e; simp_all; done) | exact Prod.ext (by omega) (by omega))) <;> conv => whnf)
end Go.Proofs.YtdjoodbidcncaaaGreatDoor.AW
