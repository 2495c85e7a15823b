/- Goroutine 0's walk through the group's Add, beside many workers. -/
import Derived.Test.YtdjoodbidcncaaaGreatDoorMAxEa
set_option linter.unusedVariables false
set_option linter.unusedSimpArgs false
namespace Go.Proofs.YtdjoodbidcncaaaGreatDoor.AW
open Go Go.Conc Go.ConcN Go.RowKit Go.Conc.Lib Go.ConcR.Gen Go.ConcN.Gen
open Go.ConcR (KK wgBlock WgAt stA smA rd wr mk Payload Aside2 DC0 Bk g_of_ofEvents)
variable [Payload] {L : WgLink}
section
variable {P : Program} {Post : Value → World → Prop} {p : Ph} {j V : Nat} {b₀ : Frame} {a₀ : Act} {ops₀ : Array Oper} {i₀ : Nat} {rest₀ : List Nat} {k₀ : List Item} {cs : List Frame}
set_option maxRecDepth 100000 in
set_option maxHeartbeats 8000000 in
theorem addEJ (H : WgLib P L) (O : p.Ok) (hb : j + pend .anch ≤ p.n) (hj : j < p.n) (w₀ w : World) (hT : ∀ w, RC p.ty p.Wg p.C w₀ w ∧ WgLive p.ty p.Wg w → EJ P Post p (.sp 0 3) j V 0 (G (b₀.at (a₀.put ((ops₀[i₀]?).bind (·.dst)) (.tuple #[])) (.inRegion ops₀ rest₀ :: k₀)) cs) w) (hF : RC p.ty p.Wg p.C w₀ w ∧ WgLive p.ty p.Wg w) :
    Goes P true (RC p.ty p.Wg p.C) DC0 (EJ P Post p .anch j V 0) 12 (G ((base L.add).at ⟨#[.pointer (some ⟨p.Wg, 0, none⟩), .int .i64 1, undef, undef, undef, undef, undef, undef, undef, undef, undef, undef, undef, undef, undef, undef, undef, undef, undef, undef, undef, undef, undef, undef, undef, undef, undef, undef, undef, undef, undef, undef, undef, undef, undef, undef, undef, undef, undef, undef, undef, undef, undef, undef, undef, undef, undef, undef, undef, undef, undef, undef, undef, undef, undef, undef, undef, undef, undef, undef, undef, undef, undef, undef, undef, undef, undef, undef, undef, undef, undef, undef, undef, undef, undef, undef, undef, undef, undef, undef, undef, undef, undef, undef, undef, undef, undef, undef, undef, undef, undef, undef, undef, undef, undef, undef, undef, undef, undef, undef, undef, undef, undef, undef, undef, undef, undef, undef, undef, undef, undef, undef, undef, undef, undef, undef, undef], []⟩ [.code (body_add L)]) (b₀.at a₀ (.inRegion ops₀ (i₀ :: rest₀) :: k₀) :: cs)) w := by
  lib_facts
  simp only [body_add, addFn, Option.getD_some]
  (u_c stepG_seq rk hF; u_cond true rk hF; u_c stepG_seq rk hF; u_c stepG_seq rk hF; u_reg rk hF; u_op rk hF; u_op rk hF; u_c stepG_region_end rk hF; u_cond false rk hF; u_c stepG_skip rk hF; u_c stepG_seq rk hF; u_reg rk hF)
  refine Goes.stop (fun w₁ h₁ => ?_)
  replace hF := rk hF h₁
  clear h₁
  refine EJ.dis O hb (by simp) rfl fun w₂ h₂ => ?_
  replace hF := rk hF h₂
  clear h₂
  refine ⟨_, stepG_mark0 .disable (by simp) rfl rfl (by k_ne) rfl H.f_disable (x_disable_n L) (x_disable_b L) (x_disable_x L) (x_disable_f L), ?_⟩
  refine EJ.of_goes O hb (by simp) (m := 40) ?_
  walk_nrm
  (u_c stepG_region_end rk hF; u_reg rk hF; u_defer rk hF; u_c stepG_region_end rk hF; u_c stepG_seq rk hF; u_reg rk hF; u_op rk hF; u_c stepG_region_end rk hF; u_c stepG_seq rk hF; u_c stepG_seq rk hF; u_reg rk hF; u_bub rk hF; u_c stepG_region_end rk hF; u_cond false rk hF; u_c stepG_skip rk hF; u_c stepG_seq rk hF; u_reg rk hF; u_op rk hF; u_op rk hF; u_op rk hF; u_op rk hF; u_op rk hF; u_op rk hF; u_call H.f_uAdd (nm_uAdd L) uAddFn rk hF; u_c stepG_seq rk hF; u_reg rk hF; u_op rk hF; u_c stepG_region_end rk hF; u_c stepG_seq rk hF; u_reg rk hF; u_op rk hF; u_op rk hF; u_op rk hF; u_op rk hF)
  refine Goes.stop (fun w₃ h₃ => ?_)
  replace hF := rk hF h₃
  clear h₃
  refine EJ.book O hb (by simp) rfl fun w₄ st sm D h₄ hw hm hV => ?_
  replace hF := rk hF h₄
  clear h₄
  obtain ⟨ho, rfl, rfl, hz⟩ := hm.open_inv trivial
  obtain ⟨v, hv⟩ : ∃ v, v = Vc j D + pend .anch := ⟨_, rfl⟩
  rw [← hv] at hw
  have hVj := Vc_le j D
  have hn := O.hn
  have hvj : v ≤ j := by rw [hv]; simpa [pend] using hVj
  have hm' : ConcN.Mode j D (.sp 0 3) (((v : Int) + 1) * KK) 0 := by
    have := ConcN.Mode.opn (j := j) (D := D) (tag := .sp 0 3) trivial ho (fun vs e => by cases e)
    have e : Vc j D = v := by rw [hv]; simp [pend]
    rw [e] at this
    simpa [pend] using this
  have hA := aside_setCell w₄ (stA p.Wg) (.int .u64 (((v : Int) + 1) * KK))
  replace hF : RC p.ty p.Wg p.C w₀ (w₄.setCell (stA p.Wg) (.int .u64 (((v : Int) + 1) * KK))) ∧ WgLive p.ty p.Wg (w₄.setCell (stA p.Wg) (.int .u64 (((v : Int) + 1) * KK))) := ⟨hF.1.trans (RC.of_wg hA ⟨_, _, hw.setSt _⟩), ⟨_, _, hw.setSt _⟩⟩
  have hw' := hw.setSt (((v : Int) + 1) * KK)
  have eS : IntKind.u64.wrap ((v : Int) * KK + 4294967296) = ((v : Int) + 1) * KK := by rw [IntKind.wrap_u64]; simp only [KK]; omega
  refine ⟨_, _, _, .sp 0 3, V, _, _, (stepG_add_atomic rfl rfl (by k_ne) rfl H.f_addU64 (x_addU64_n L) (x_addU64_b L) (x_addU64_x L) .u64 (x_addU64_f L) rfl rfl hw.cellSt (hw.thaw 0)).trans (by rw [eS]; rfl), hA, bk_rw, hw', hm', hV, ?_⟩
  clear hz hm hm' hA hw hw' eS ho hv hV hVj
  show EJ P Post p (.sp 0 3) j V 1 _ _
  have hb1 : j + pend (.sp 0 3) ≤ p.n := by simp [pend]; omega
  rcases Nat.eq_zero_or_pos v with rfl | hvp
  · have z : (((0 : Nat) : Int) + 1) * KK = KK := by simp
    rw [z] at hF ⊢
    simp only [KK] at hF ⊢
    refine EJ.of_goes O hb1 (by simp) (m := 110) ?_
    walk_nrm
    (u_op rk hF; u_c stepG_region_end rk hF; u_c stepG_ret' rk hF; u_leave1 H.f_uAdd rk hF; u_op rk hF; u_c stepG_region_end rk hF; u_c stepG_seq rk hF; u_c stepG_seq rk hF; u_reg rk hF; u_op rk hF; u_op rk hF; u_op rk hF; u_op rk hF; u_skip rk hF; u_skip rk hF; u_op rk hF; u_c stepG_region_end rk hF; u_cond false rk hF; u_c stepG_skip rk hF; u_c stepG_seq rk hF; u_reg rk hF; u_op rk hF; u_op rk hF; u_op rk hF; u_op rk hF; u_c stepG_region_end rk hF; u_c stepG_seq rk hF; u_reg rk hF; u_op rk hF; u_op rk hF; u_op rk hF; u_op rk hF; u_c stepG_region_end rk hF; u_c stepG_seq rk hF; u_c stepG_seq rk hF; u_reg rk hF; u_op rk hF; u_op rk hF; u_op rk hF; u_op rk hF; u_op rk hF; u_op rk hF; u_op rk hF; u_op rk hF; u_op rk hF; u_op rk hF; u_c stepG_region_end rk hF; u_cond true rk hF; u_reg rk hF; u_op rk hF; u_op rk hF; u_op rk hF; u_conv H.underlying_tPU32 H.room_tU32 (WgLive.cell1 hF.2).choose_spec rk hF)
    refine Goes.stop (fun w₃ h₃ => ?_)
    replace hF := rk hF h₃
    clear h₃
    refine EJ.says O hb1 (by simp) rfl fun w₄ h₄ => ?_
    replace hF := rk hF h₄
    clear h₄
    refine ⟨_, _, stepG_markAt .read (by simp) rfl rfl (by k_ne) rfl H.f_raceRead (x_raceRead_n L) (x_raceRead_b L) (x_raceRead_x L) (x_raceRead_f L) (ad := ⟨p.Wg, 1, none⟩) (by simp [Act.eval]), ⟨_, .inl rfl, rfl⟩, ?_⟩
    refine EJ.of_goes O hb1 (by simp) (m := 60) ?_
    walk_nrm
    (u_c stepG_region_end rk hF; u_c stepG_seq rk hF; u_c stepG_seq rk hF; u_reg rk hF; u_op rk hF; u_op rk hF; u_c stepG_region_end rk hF; u_cond false rk hF; u_c stepG_skip rk hF; u_c stepG_seq rk hF; u_c stepG_seq rk hF; u_reg rk hF; u_op rk hF; u_op rk hF; u_op rk hF; u_skip rk hF; u_skip rk hF; u_op rk hF; u_op rk hF; u_skip rk hF; u_skip rk hF; u_skip rk hF; u_skip rk hF; u_op rk hF; u_c stepG_region_end rk hF; u_cond false rk hF; u_c stepG_skip rk hF; u_c stepG_seq rk hF; u_c stepG_seq rk hF; u_reg rk hF; u_op rk hF; u_op rk hF; u_op rk hF; u_skip rk hF; u_skip rk hF; u_op rk hF; u_c stepG_region_end rk hF; u_cond true rk hF; u_c stepG_ret' rk hF)
    refine Goes.stop (fun w₅ h₅ => ?_)
    replace hF := rk hF h₅
    clear h₅
    refine EJ.ena (tag' := .sp 0 3) O hb1 (by simp) rfl (fun _ _ _ h => h) fun w₆ h₆ => ?_
    replace hF := rk hF h₆
    clear h₆
    refine ⟨_, stepG_unwind_entry (v := .tuple #[]) (evs := #[mk .enable]) rfl H.f_enable (x_enable_n L) (x_enable_b L) (x_enable_x L) (x_enable_f L) (by simp [Extern.Race.none_]) (by simp [mk]) (by simp [mk]), ?_⟩
    refine EJ.of_goes O hb1 (by simp) (m := 1) ?_
    u_leave0 H.f_add rk hF
    exact Goes.stop fun w₇ h₇ => hT _ (rk hF h₇)
  · obtain ⟨U, hU⟩ : ∃ U : Int, U = (v : Int) + 1 := ⟨_, rfl⟩
    obtain ⟨S, hS⟩ : ∃ S : Int, S = U * KK := ⟨_, rfl⟩
    rw [← hU, ← hS] at hF ⊢
    have a1 : S / 4294967296 = U := by rw [hS]; simp only [KK]; omega
    have b1 : bits .and .u64 S 2147483648 = 0 := by rw [hS, hU]; have := st_flag (v + 1) 0 (by omega) (by omega); simpa [KK] using this
    have b2 : bits .and .u64 S 2147483647 = 0 := by rw [hS, hU]; have := st_waiters (v + 1) 0 (by omega) (by omega); simpa [KK] using this
    have c1 : IntKind.i32.wrap U = U := by rw [IntKind.wrap_i32]; omega
    have hU1 : 1 < U := by omega
    have hU2 : U < 2147483648 := by omega
    have q1 : (U == 1) = false := by simp; omega
    have q2 : decide (U = 1) = false := decide_eq_false (by omega)
    have q3 : decide (U < 0) = false := decide_eq_false (by omega)
    have q4 : decide (0 < U) = true := decide_eq_true (by omega)
    have q5 : (U == 0) = false := by simp; omega
    have q6 : decide (U = 0) = false := decide_eq_false (by omega)
    clear hS hU
    refine EJ.of_goes O hb1 (by simp) (m := 110) ?_
    walk_nrm
    (u_op rk hF; u_c stepG_region_end rk hF; u_c stepG_ret' rk hF; u_leave1 H.f_uAdd rk hF; u_op rk hF; u_c stepG_region_end rk hF; u_c stepG_seq rk hF; u_c stepG_seq rk hF; u_reg rk hF; u_op rk hF; u_op rk hF; u_op rk hF; u_op rk hF; u_skip rk hF; u_skip rk hF; u_op rk hF; u_c stepG_region_end rk hF; u_cond false rk hF; u_c stepG_skip rk hF; u_c stepG_seq rk hF; u_reg rk hF; u_op rk hF; u_op rk hF; u_op rk hF; u_op rk hF; u_c stepG_region_end rk hF; u_c stepG_seq rk hF; u_reg rk hF; u_op rk hF; u_op rk hF; u_op rk hF; u_op rk hF; u_c stepG_region_end rk hF; u_c stepG_seq rk hF; u_c stepG_seq rk hF; u_reg rk hF; u_op rk hF; u_op rk hF; u_op rk hF; u_op rk hF; u_op rk hF; u_op rk hF; u_op rk hF; u_op rk hF; u_op rk hF; u_op rk hF; u_c stepG_region_end rk hF; u_cond false rk hF; u_c stepG_skip rk hF; u_c stepG_seq rk hF; u_c stepG_seq rk hF; u_reg rk hF; u_op rk hF; u_op rk hF; u_c stepG_region_end rk hF; u_cond false rk hF; u_c stepG_skip rk hF; u_c stepG_seq rk hF; u_c stepG_seq rk hF; u_reg rk hF; u_op rk hF; u_op rk hF; u_op rk hF; u_skip rk hF; u_skip rk hF; u_op rk hF; u_op rk hF; u_skip rk hF; u_skip rk hF; u_skip rk hF; u_skip rk hF; u_op rk hF; u_c stepG_region_end rk hF; u_cond false rk hF; u_c stepG_skip rk hF; u_c stepG_seq rk hF; u_c stepG_seq rk hF; u_reg rk hF; u_op rk hF; u_op rk hF; u_op rk hF; u_skip rk hF; u_skip rk hF; u_op rk hF; u_c stepG_region_end rk hF; u_cond true rk hF; u_c stepG_ret' rk hF)
    refine Goes.stop (fun w₃ h₃ => ?_)
    replace hF := rk hF h₃
    clear h₃
    refine EJ.ena (tag' := .sp 0 3) O hb1 (by simp) rfl (fun _ _ _ h => h) fun w₄ h₄ => ?_
    replace hF := rk hF h₄
    clear h₄
    refine ⟨_, stepG_unwind_entry (v := .tuple #[]) (evs := #[mk .enable]) rfl H.f_enable (x_enable_n L) (x_enable_b L) (x_enable_x L) (x_enable_f L) (by simp [Extern.Race.none_]) (by simp [mk]) (by simp [mk]), ?_⟩
    refine EJ.of_goes O hb1 (by simp) (m := 1) ?_
    u_leave0 H.f_add rk hF
    exact Goes.stop fun w₅ h₅ => hT _ (rk hF h₅)
end
end Go.Proofs.YtdjoodbidcncaaaGreatDoor.AW
