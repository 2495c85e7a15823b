/- impl.each: the loop that starts the workers. -/
import Derived.Test.YtdjoodbidcncaaaGreatDoorMAxH
import Derived.Test.YtdjoodbidcncaaaGreatDoorMAxEk
import Derived.Test.YtdjoodbidcncaaaGreatDoorMAxEg
import Derived.Laws.MakeOwn
set_option linter.unusedVariables false
set_option linter.unusedSimpArgs false
namespace Go.Proofs.YtdjoodbidcncaaaGreatDoor.AW
open Go Go.Conc Go.ConcN Go.RowKit Go.Conc.Lib Go.ConcR.Gen Go.ConcN.Gen
open Go.ConcR (KK wgBlock WgAt stA smA rd wr mk Payload Aside2 DC0 Bk g_of_ofEvents)
def _root_.Go.Code.l : Code → Code | .seq a _ => a | c => c
def _root_.Go.Code.r : Code → Code | .seq _ b => b | c => c
def _root_.Go.Code.inn : Code → Code | .block _ c => c | .loop c => c | c => c
noncomputable def eachBody : Code := (Tryz.f72.body).getD .skip
noncomputable def eLoopC : Code := eachBody.r.r.r.r.l.r.inn.inn
noncomputable def eWaitC : Code := eachBody.r.r.r.r.r
structure ET (q : WP) (N n j : Nat) (T : Array Value) : Prop where
  sz : T.size = 39
  t3 : T[3]? = some (.pointer (some ⟨q.Ba, 0, none⟩))
  t4 : T[4]? = some (.pointer (some ⟨q.Bb, 0, none⟩))
  t5 : T[5]? = some (.pointer (some ⟨q.Bf, 0, none⟩))
  t8 : T[8]? = some (.pointer (some ⟨N + 1, 0, none⟩))
  t9 : T[9]? = some (.pointer (some ⟨N + 2, 0, none⟩))
  t30 : T[30]? = some (.int .i64 n)
  t31 : T[31]? = some (.int .i64 j)
section
variable {S₀ : Nat → Prop} {q : WP} {N n c : Nat} {Post : Value → World → Prop} {sa sb : Value} {W : World} {b : Frame} {k : List Item} {cs : List Frame}
theorem stepG_al3 {main : Bool} {a : Act} {w : World} {ops : Array Oper} {i : Nat} {rest : List Nat} {o : Oper} (ho : ops[i]? = some o) (hw : Region.wanted o (yielded ops a.tmps) = true) (hk : b.kind ≠ .early) (hop : o.op = .alloc 3) :
    stepG Tryz.prog main (G (b.at a (.inRegion ops (i :: rest) :: k)) cs) w = .go (G (b.at (a.put o.dst (.pointer (some ⟨w.heap.size, 0, none⟩))) (.inRegion ops rest :: k)) cs) (w.alloc (.cells #[.int .i64 0] 3)) #[] := by
  have hr : (execOp a.eval o).run Tryz.prog w = .ok (.value (.pointer (some ⟨w.heap.size, 0, none⟩))) (w.alloc (.cells #[.int .i64 0] 3)) := by
    unfold execOp
    simp only [hop]
    simp [go_sem]
  have he : (execOp a.eval o).events Tryz.prog w #[] = #[] := by
    unfold execOp
    simp only [hop]
    simp [go_sem]
  rw [stepG_value ho hw hk hr]
  unfold listed
  rw [he, seen_none]
theorem stepG_st3 {main : Bool} {a : Act} {w : World} {ops : Array Oper} {i : Nat} {rest : List Nat} {o : Oper} {x y : Operand} (ho : ops[i]? = some o) (hw : Region.wanted o (yielded ops a.tmps) = true) (hk : b.kind ≠ .early) (hop : o.op = .store 3 x y)
    {ad : Addr} {v : Int} {u : Value} (hx : a.eval x = .pointer (some ad)) (hy : a.eval y = .int .i64 v) (hc : w.cell? ad = some u) (hz : w.frozen? ad = false) (hq : (Tryz.prog.funcs[b.fn]?).any (·.norace) = false) :
    stepG Tryz.prog main (G (b.at a (.inRegion ops (i :: rest) :: k)) cs) w = .go (G (b.at (a.put o.dst undef) (.inRegion ops rest :: k)) cs) (w.setCell ad (.int .i64 v)) #[⟨.cell ad, true, false⟩] := by
  have hr : (execOp a.eval o).run Tryz.prog w = .ok .skip (w.setCell ad (.int .i64 v)) := by
    unfold execOp
    simp only [hop, hx, hy]
    simp [go_sem, stored, hc, hz]
  have he : (execOp a.eval o).events Tryz.prog w #[] = #[⟨.cell ad, true, false⟩] := by
    unfold execOp
    simp only [hop, hx, hy]
    simp [go_sem, storedEv, hc, hz]
  rw [stepG_none ho hw hk hr]
  unfold listed
  rw [he, seen_eq hq (by simp)]
/-- .. and its own variable i is made -/
def EB (W : World) (q : WP) (N n j : Nat) (sa sb : Value) (v : Value) (w : World) : Prop := EK W q N n (j + 1) sa sb w ∧ w.heap[N + 3 + j]? = some (.cells #[v] 3)
theorem EB.rely {j : Nat} {v : Value} {w w₁ : World} (hl : ELie S₀ q N n) (h : EB W q N n j sa sb v w) (r : RC link.tWg (N + 2) N w w₁) : EB W q N n j sa sb v w₁ :=
  ⟨h.1.rely hl r, (r.aside.block _ (by omega) (by omega)).trans h.2⟩
theorem loudF (hb : b.fn = 72) : (Tryz.prog.funcs[b.fn]?).any (·.norace) = false := by rw [hb]; kernel_rfl
theorem evZ_box (hl : ELie S₀ q N n) {j : Nat} {w : World} (hw : N + 3 + j < w.heap.size) (wr : Bool) : EvZ (ePh S₀ q N n c) j w ⟨.cell ⟨N + 3 + j, 0, none⟩, wr, false⟩ := by
  refine ⟨fun x hx => ?_, by simp, hw⟩
  simp only [Go.ConcR.ofEvent_cell, MemAct.touch?, Option.some.injEq] at hx
  subst hx
  refine ⟨fun e => absurd rfl e, fun _ => ⟨fun ⟨a, e, hs⟩ => ?_, fun k hk ho => ?_, fun _ ⟨a, e, hr⟩ => ?_⟩⟩
  · cases e
    rcases hs with hs | hs
    · have := hl.sh _ hs; simp at this; omega
    · simp at hs; omega
  · rcases ho with e | e <;> simp [ePh] at e <;> omega
  · cases e
    have := hl.ro _ hr
    simp at this
    omega
set_option maxRecDepth 100000 in
set_option maxHeartbeats 4000000 in
theorem eRound (hl : ELie S₀ q N n) (hc : 0 < c) (hk : b.kind ≠ .early) (hb : b.fn = 72) (hfn : ∀ k, k < n → WFn Tryz.prog q.mkf (q.xs k) (q.ys k) (q.zs k)) {j : Nat} (hj : j ≤ n)
    (hfin : j = n → ∀ T w, ET q N n n T → EK W q N n n sa sb w → EJ Tryz.prog Post (ePh S₀ q N n c) .anch n n 0 (G (b.at ⟨T, []⟩ k) cs) w)
    (hnext : j < n → ∀ T w, ET q N n (j + 1) T → EK W q N n (j + 1) sa sb w → EJ Tryz.prog Post (ePh S₀ q N n c) .anch (j + 1) (j + 1) 0 (G (b.at ⟨T, []⟩ (.code eLoopC :: .inLoop eLoopC :: .inBlock 0 :: k)) cs) w)
    (T : Array Value) (w : World) (hT : ET q N n j T) (hF : EK W q N n j sa sb w) : EJ Tryz.prog Post (ePh S₀ q N n c) .anch j j 0 (G (b.at ⟨T, []⟩ (.code eLoopC :: .inLoop eLoopC :: .inBlock 0 :: k)) cs) w := by
  have O := ePh_ok hl hc
  have hpn : j + pend .anch ≤ (ePh S₀ q N n c).n := by simpa [pend, ePh] using hj
  have rl : ∀ {w w₁ : World}, EK W q N n j sa sb w → RC link.tWg (N + 2) N w w₁ → EK W q N n j sa sb w₁ := fun h r => h.rely hl r
  obtain ⟨v0, v1, v2, v3, v4, v5, v6, v7, v8, v9, v10, v11, v12, v13, v14, v15, v16, v17, v18, v19, v20, v21, v22, v23, v24, v25, v26, v27, v28, v29, v30, v31, v32, v33, v34, v35, v36, v37, v38, rfl⟩ := array39 T hT.sz
  obtain ⟨_, t3, t4, t5, t8, t9, t30, t31⟩ := hT
  simp only [List.getElem?_toArray, List.getElem?_cons_zero, List.getElem?_cons_succ, Option.some.injEq] at t3 t4 t5 t8 t9 t30 t31
  subst t3 t4 t5 t8 t9 t30 t31
  refine EJ.of_goes O hpn (by simp) (m := 40) ?_
  simp only [eLoopC, eachBody, Tryz.f72, Option.getD_some, Code.r, Code.l, Code.inn]
  rcases Nat.lt_or_eq_of_le hj with hlt | rfl
  · have q1 : decide ((j : Int) < (n : Int)) = true := decide_eq_true (by omega)
    (u_c stepG_seq rl hF; u_reg rl hF; u_op rl hF; u_c stepG_region_end rl hF; u_c stepG_seq rl hF; u_cond true rl hF; u_c stepG_skip rl hF; u_c stepG_seq rl hF; u_c stepG_block rl hF; u_c stepG_seq rl hF; u_reg rl hF; u_op rl hF)
    refine Goes.stop fun w₁ h₁ => ?_
    replace hF := rl hF h₁
    clear h₁
    -- its variable i is made
    refine EJ.idle O hpn (by simp) rfl fun w₂ h₂ => ?_
    replace hF := rl hF h₂
    clear h₂
    refine ⟨_, _, _, stepG_al3 rfl rfl hk rfl, fun b' hb' => Below.heap_alloc _ _ _ (by rw [hF.size]; exact hb'), fun e he => by simp at he, by simp, ?_⟩
    have hB : EB W q N n j sa sb (.int .i64 0) (w₂.alloc (.cells #[.int .i64 0] 3)) := by
      refine ⟨hF.turn hl (by simp [hF.size]; omega) (fun b' h1 h2 => Below.heap_alloc _ _ _ (by rw [hF.size]; omega)) ?_ ⟨rfl, rfl, rfl⟩, ?_⟩
      · obtain ⟨st, sm, hw⟩ := hF.live
        exact ⟨st, sm, hw.of_block (Below.heap_alloc _ _ _ (by rw [hF.size]; omega))⟩
      · have := heap_alloc_new w₂ (.cells #[.int .i64 0] 3)
        rwa [hF.size] at this
    rw [hF.size]
    clear hF rl
    have hF := hB
    clear hB
    have rl : ∀ {v : Value} {w w₁ : World}, EB W q N n j sa sb v w → RC link.tWg (N + 2) N w w₁ → EB W q N n j sa sb v w₁ := fun h r => h.rely hl r
    walk_nrm
    refine EJ.idle O hpn (by simp) rfl fun w₃ h₃ => ?_
    replace hF := rl hF h₃
    clear h₃
    have hc3 : w₃.cell? ⟨N + 3 + j, 0, none⟩ = some (.int .i64 0) := by simp [World.cell?, hF.2]
    have hz3 : w₃.frozen? ⟨N + 3 + j, 0, none⟩ = false := by simp [World.frozen?, hF.2]
    have hA := aside_setCell w₃ ⟨N + 3 + j, 0, none⟩ (.int .i64 j)
    refine ⟨_, _, _, stepG_st3 rfl rfl hk rfl rfl rfl hc3 hz3 (loudF hb), fun b' hb' => hA.block b' (by simp only [ePh] at hb'; show b' ≠ N + 3 + j; omega), fun e he => ?_, Nat.le_of_eq hA.size.symm, ?_⟩
    · simp at he
      subst he
      exact ⟨evZ_box hl (by rw [hA.size, hF.1.size]; omega) _, by simp, by simp⟩
    have hB : EB W q N n j sa sb (.int .i64 j) (w₃.setCell ⟨N + 3 + j, 0, none⟩ (.int .i64 j)) := by
      refine ⟨hF.1.turn hl (hA.size.trans hF.1.size) (fun b' h1 h2 => hA.block b' (by simp; omega)) ?_ ⟨hA.os, hA.tape, hA.output⟩, ?_⟩
      · obtain ⟨st, sm, hw⟩ := hF.1.live
        exact ⟨st, sm, hw.of_block (hA.block _ (by simp; omega))⟩
      · rw [setCell_eq_setRow w₃ (N + 3 + j) 0 _ _ (0, 0) _ hF.2, setRow_heap w₃ _ _ _ _ _ hF.2]
        rfl
    clear hF hc3 hz3 hA
    have hF := hB
    clear hB
    refine EJ.of_goes O hpn (by simp) (m := 40) ?_
    walk_nrm
    (u_c stepG_region_end rl hF; u_c stepG_seq rl hF; u_reg rl hF)
    u_in rl hF
    refine goes_call rfl rfl hk rfl wgLib.f_add (nm_add link) rfl ⟨by u_nil, ?_⟩
    walk_nrmf addFn
    refine Goes.stop fun w₄ h₄ => EJ.of_goes O hpn (by simp) (addEJ wgLib O hpn (show j < (ePh S₀ q N n c).n from hlt) w₄ w₄ (fun w₅ h₅ => ?_) ⟨RC.refl _, (rl hF h₄).1.live⟩)
    replace hF := rl (rl hF h₄) h₅.1
    clear h₄ h₅
    have hp1 : j + pend (.sp 0 3) ≤ (ePh S₀ q N n c).n := by simp [pend, ePh]; omega
    refine EJ.of_goes O hp1 (by simp) (m := 40) ?_
    walk_nrm
    (u_c stepG_region_end rl hF; u_reg rl hF; u_op rl hF)
    refine Goes.stop fun w₆ h₆ => ?_
    replace hF := rl hF h₆
    clear h₆
    refine EJ.spawn O (show j < (ePh S₀ q N n c).n from hlt) rfl fun w₇ h₇ => ?_
    replace hF := rl hF h₇
    clear h₇
    rw [stepG_spawn (d := eBorn (ePh S₀ q N n c) q j) (w' := w₇) (f := .func 126) (c := #[.pointer (some ⟨N + 2, 0, none⟩), .pointer (some ⟨q.Bf, 0, none⟩), .pointer (some ⟨q.Ba, 0, none⟩), .pointer (some ⟨N + 3 + j, 0, none⟩), .pointer (some ⟨q.Bb, 0, none⟩), .pointer (some ⟨N + 1, 0, none⟩)]) rfl rfl hk (by simp [go_sem, eBorn, ePh, Deferred.ofValue, hl.out]) (by simp [eBorn, ePh, hl.out])]
    generalize hL : listed _ _ _ _ _ = Lx
    have hLx : Lx = #[] := by
      rw [← hL]
      simp [listed, go_sem, seen, Deferred.ofValue]
      try rfl
    subst hLx
    clear hL
    refine ⟨_, _, rfl, fun hpay => eWorks O (eSep hl) rfl ctx_mixed hlt (hfn j hlt) ⟨hl.out ▸ hF.1.outv, ?_, hF.1.fv, hF.1.sa (by omega) ▸ hF.1.av, hF.1.sb (by omega) ▸ hF.1.bv, hF.1.xv j hlt, hF.1.yv j hlt, hF.1.live, hpay⟩, ?_⟩
    · simp [World.cell?, ePh, hF.2]
    have hwr : IntKind.i64.wrap ((j : Int) + 1) = ((j + 1 : Nat) : Int) := by rw [IntKind.wrap_i64]; have := hl.n; omega
    have hG := hF.1
    clear hF rl
    have hF := hG
    clear hG
    have rl : ∀ {w w₁ : World}, EK W q N n (j + 1) sa sb w → RC link.tWg (N + 2) N w w₁ → EK W q N n (j + 1) sa sb w₁ := fun h r => h.rely hl r
    have hp2 : j + 1 + pend .anch ≤ (ePh S₀ q N n c).n := by simp [pend, ePh]; omega
    refine EJ.of_goes O hp2 (by simp) (m := 40) ?_
    walk_nrm
    (u_c stepG_region_end rl hF; u_c stepG_inBlock rl hF; u_reg rl hF; u_op rl hF; u_op rl hF; u_c stepG_region_end rl hF; u_c stepG_inLoop rl hF)
    have hn := hnext hlt
    simp only [eLoopC, eachBody, Tryz.f72, Option.getD_some, Code.r, Code.l, Code.inn] at hn
    exact Goes.stop fun w₁ h₁ => hn _ _ ⟨rfl, rfl, rfl, rfl, rfl, rfl, rfl, by simp [hwr]⟩ (rl hF h₁)
  · have q1 : decide ((j : Int) < (j : Int)) = false := decide_eq_false (by omega)
    (u_c stepG_seq rl hF; u_reg rl hF; u_op rl hF; u_c stepG_region_end rl hF; u_c stepG_seq rl hF; u_cond false rl hF)
    u_exit rl hF
    exact Goes.stop fun w₁ h₁ => hfin rfl _ _ ⟨rfl, rfl, rfl, rfl, rfl, rfl, rfl, rfl⟩ (rl hF h₁)
/-- ████ all the workers are started ████ -/
theorem eLoop (hl : ELie S₀ q N n) (hc : 0 < c) (hk : b.kind ≠ .early) (hb : b.fn = 72) (hfn : ∀ k, k < n → WFn Tryz.prog q.mkf (q.xs k) (q.ys k) (q.zs k))
    (hfin : ∀ T w, ET q N n n T → EK W q N n n sa sb w → EJ Tryz.prog Post (ePh S₀ q N n c) .anch n n 0 (G (b.at ⟨T, []⟩ k) cs) w) :
    ∀ (r j : Nat), j + r = n → ∀ T w, ET q N n j T → EK W q N n j sa sb w → EJ Tryz.prog Post (ePh S₀ q N n c) .anch j j 0 (G (b.at ⟨T, []⟩ (.code eLoopC :: .inLoop eLoopC :: .inBlock 0 :: k)) cs) w
  | 0, j, hr, T, w, hT, hF => eRound hl hc hk hb hfn (by omega) (fun _ => hfin) (fun h => absurd h (by omega)) T w hT hF
  | r + 1, j, hr, T, w, hT, hF => eRound hl hc hk hb hfn (by omega) (fun _ => hfin) (fun _ T w h1 h2 => eLoop hl hc hk hb hfn hfin r (j + 1) (by omega) T w h1 h2) T w hT hF
end
end Go.Proofs.YtdjoodbidcncaaaGreatDoor.AW

/- impl.each: the workers are waited for; what is returned. -/
namespace Go.Proofs.YtdjoodbidcncaaaGreatDoor.AW
open Go Go.Conc Go.ConcN Go.RowKit Go.Conc.Lib Go.ConcR.Gen Go.ConcN.Gen
open Go.ConcR (KK wgBlock WgAt stA smA rd wr mk Payload Aside2 DC0 Bk g_of_ofEvents)
/-- when all is over -/
def EF (W : World) (q : WP) (N n : Nat) (sa sb : Value) (w : World) : Prop := EK W q N n n sa sb w ∧ (∀ k, k < n → Has N k (.int .i64 (q.zs k)) w) ∧ PayAt N n w
section
variable {S₀ : Nat → Prop} {q : WP} {N n c : Nat} {Post : Value → World → Prop} {sa sb : Value} {W : World} {b : Frame} {k : List Item} {cs : List Frame}
theorem EF.rely {w w₁ : World} (hl : ELie S₀ q N n) (h : EF W q N n sa sb w) (r : AtRel w w₁) : EF W q N n sa sb w₁ := by
  obtain ⟨d, rfl⟩ := r
  exact ⟨h.1.rely hl (RC.at w d), h.2⟩
set_option maxRecDepth 100000 in
set_option maxHeartbeats 4000000 in
theorem eWait (hl : ELie S₀ q N n) (hc : 0 < c) (hk : b.kind ≠ .early) (hb : b.fn = 72)
    (hfin : ∀ T w, T.size = 39 → T[6]? = some (.slice (some ⟨N, 0, none⟩) n n) → T[7]? = some (.bool true) → EF W q N n sa sb w → ∀ todo, Ends Tryz.prog Post (shunOf (eSh S₀ N)) (G (b.at ⟨T, []⟩ (.code .ret :: todo)) cs) w)
    (T : Array Value) (w : World) (hT : ET q N n n T) (hF : EK W q N n n sa sb w) : EJ Tryz.prog Post (ePh S₀ q N n c) .anch n n 0 (G (b.at ⟨T, []⟩ (.code eWaitC :: k)) cs) w := by
  have O := ePh_ok hl hc
  have hpn : n + pend .anch ≤ (ePh S₀ q N n c).n := by simp [pend, ePh]
  have rl : ∀ {w w₁ : World}, EK W q N n n sa sb w → RC link.tWg (N + 2) N w w₁ → EK W q N n n sa sb w₁ := fun h r => h.rely hl r
  obtain ⟨v0, v1, v2, v3, v4, v5, v6, v7, v8, v9, v10, v11, v12, v13, v14, v15, v16, v17, v18, v19, v20, v21, v22, v23, v24, v25, v26, v27, v28, v29, v30, v31, v32, v33, v34, v35, v36, v37, v38, rfl⟩ := array39 T hT.sz
  obtain ⟨_, t3, t4, t5, t8, t9, t30, t31⟩ := hT
  simp only [List.getElem?_toArray, List.getElem?_cons_zero, List.getElem?_cons_succ, Option.some.injEq] at t3 t4 t5 t8 t9 t30 t31
  subst t3 t4 t5 t8 t9 t30 t31
  refine EJ.of_goes O hpn (by simp) (m := 40) ?_
  simp only [eWaitC, eachBody, Tryz.f72, Option.getD_some, Code.r, Code.l, Code.inn]
  (u_c stepG_seq rl hF; u_reg rl hF)
  u_in rl hF
  refine goes_call rfl rfl hk rfl wgLib.f_wait (nm_wait link) rfl ⟨by u_nil, ?_⟩
  walk_nrmf waitFn
  refine Goes.stop fun w₄ h₄ => waitEJ wgLib O rfl w₄ (fun w₅ h₅ => ?_) w₄ ⟨RC.refl _, (rl hF h₄).live⟩
  have hG : EF W q N n sa sb w₅ := ⟨rl (rl hF h₄) h₅.1, h₅.2.2⟩
  clear hF h₄ h₅ rl
  have hF := hG
  clear hG
  have rl : ∀ {w w₁ : World}, EF W q N n sa sb w → AtRel w w₁ → EF W q N n sa sb w₁ := fun h r => h.rely hl r
  refine Ends.of_goes (m := 40) ?_
  walk_nrm
  (u_c stepG_region_end rl hF; u_c stepG_seq rl hF; u_reg rl hF)
  refine Goes.stop fun w₆ h₆ => ?_
  replace hF := rl hF h₆
  clear h₆
  refine Ends.step rfl fun w₇ h₇ => ?_
  replace hF := rl hF h₇
  clear h₇
  refine ⟨_, w₇, _, stepG_ld rfl rfl hk rfl Tryz.sizeOf23 Tryz.isAgg23 (loudF hb) rfl hF.1.outv, Nat.le_refl _, fun e he => ?_, ?_⟩
  · simp at he
    subst he
    refine evL_cell _ _ ?_ (by show N + 1 < _; rw [hF.1.size]; omega)
    rintro ⟨a, e, hs⟩
    cases e
    rcases hs with hs | hs
    · have : N + 1 < N := hl.sh _ hs
      omega
    · have : N + 1 = N + 2 := hs
      omega
  refine Ends.of_goes (m := 40) ?_
  walk_nrm
  (u_op rl hF; u_op rl hF; u_c stepG_region_end rl hF)
  exact Goes.stop fun w₈ h₈ => hfin _ _ rfl rfl rfl (rl hF h₈) _
end
end Go.Proofs.YtdjoodbidcncaaaGreatDoor.AW

/- impl.each: from where out is made. -/
namespace Go.Proofs.YtdjoodbidcncaaaGreatDoor.AW
open Go Go.Conc Go.ConcN Go.RowKit Go.Conc.Lib Go.ConcR.Gen Go.ConcN.Gen
open Go.ConcR (KK wgBlock WgAt stA smA rd wr mk Payload Aside2 DC0 Bk g_of_ofEvents)
/-- what stands while s blocks are made -/
structure EA (W : World) (q : WP) (N n s : Nat) (sa sb : Value) (w : World) : Prop where
  io : SameIO W w
  low : ∀ b, b < N → w.heap[b]? = W.heap[b]?
  size : w.heap.size = N + s
  fv : w.cell? ⟨q.Bf, 0, none⟩ = some (.func (.func q.mkf) #[] #[])
  av : w.cell? ⟨q.Ba, 0, none⟩ = some sa
  bv : w.cell? ⟨q.Bb, 0, none⟩ = some sb
  sa : 0 < n → sa = .slice (some ⟨q.ra, q.oa, none⟩) n q.ca
  sb : 0 < n → sb = .slice (some ⟨q.rb, q.ob, none⟩) n q.cb
  xv : ∀ k, k < n → w.cell? ⟨q.ra, q.oa + k, none⟩ = some (.int .i64 (q.xs k))
  yv : ∀ k, k < n → w.cell? ⟨q.rb, q.ob + k, none⟩ = some (.int .i64 (q.ys k))
  fl : q.Bf < N ∧ q.Ba < N ∧ q.Bb < N ∧ (0 < n → q.ra < N ∧ q.rb < N)
section
variable {S₀ : Nat → Prop} {q : WP} {N n c : Nat} {Post : Value → World → Prop} {sa sb : Value} {W : World} {b : Frame} {k : List Item} {cs : List Frame}
theorem EA.turn {s s' : Nat} {w w' : World} (h : EA W q N n s sa sb w) (hs : w'.heap.size = N + s') (hb : ∀ b, b < N → w'.heap[b]? = w.heap[b]?) (hio : SameIO w w') : EA W q N n s' sa sb w' := by
  obtain ⟨f1, f2, f3, f4⟩ := h.fl
  exact ⟨h.io.trans hio, fun b hlt => (hb b hlt).trans (h.low b hlt), hs, (cell_of_block (hb _ f1) 0).trans h.fv, (cell_of_block (hb _ f2) 0).trans h.av, (cell_of_block (hb _ f3) 0).trans h.bv, h.sa, h.sb,
    fun k hk => (cell_of_block (hb _ (f4 (by omega)).1) _).trans (h.xv k hk), fun k hk => (cell_of_block (hb _ (f4 (by omega)).2) _).trans (h.yv k hk), h.fl⟩
theorem EA.rely {s : Nat} {w w₁ : World} (h : EA W q N n s sa sb w) (r : AtRel w w₁) : EA W q N n s sa sb w₁ := by
  obtain ⟨d, rfl⟩ := r
  exact h.turn h.size (fun _ _ => rfl) ⟨rfl, rfl, rfl⟩
def noEmb : Emb := ⟨id, fun _ => 0, fun _ => False, fun _ => False, fun _ => False, fun _ => False⟩
theorem noEmb_ev {S : Nat → Prop} {w w' : World} {es : Array Event} (hS : ∀ r, S r → r < w.heap.size) (h : EvOk noEmb w w' es) : ∀ e ∈ es, EvL (shunOf S) w'.heap.size e :=
  Safe.ev (E := noEmb) (w := w) ⟨fun r h => h.elim, fun b h => h.elim, hS, fun b h => h.elim⟩ h
theorem stepG_ms {a : Act} {w : World} {ops : Array Oper} {i : Nat} {rest : List Nat} {o : Oper} {x y : Operand} (ho : ops[i]? = some o) (hw : Region.wanted o (yielded ops a.tmps) = true) (hk : b.kind ≠ .early) (hop : o.op = .makeSlice 23 x y)
    (hx : a.eval x = .int .i64 n) (hy : a.eval y = .int .i64 n) (hn : n < 2147483648) : ∃ es, EvOk noEmb w (w.alloc (.cells (madeCells #[.int .i64 0] n) 3)) es ∧ stepG Tryz.prog true (G (b.at a (.inRegion ops (i :: rest) :: k)) cs) w = .go (G (b.at (a.put o.dst (.slice (some ⟨w.heap.size, 0, none⟩) n n)) (.inRegion ops rest :: k)) cs) (w.alloc (.cells (madeCells #[.int .i64 0] n) 3)) es := by
  have hinfo : (Tryz.prog.info? 3).map (fun i => (i.size, i.bytes, i.zero)) = some (1, 8, some (.int .i64 0)) := by kernel_rfl
  obtain ⟨inf, i1, hi⟩ := Option.map_eq_some_iff.1 hinfo
  simp only [Prod.mk.injEq] at hi
  obtain ⟨i2, i3, i4⟩ := hi
  have hr0 := run_make (P := Tryz.prog) w 23 3 inf (.int .i64 0) Tryz.underlying23 i1 i4 .i64 .i64 n n (by omega) (Int.le_refl _) (by rw [i3]; omega) (by omega)
  rw [i2] at hr0
  simp only [Int.toNat_natCast, Nat.mul_one] at hr0
  have hr : (execOp a.eval o).run Tryz.prog w = .ok (.value (.slice (some ⟨w.heap.size, 0, none⟩) n n)) (w.alloc (.cells (madeCells #[.int .i64 0] n) 3)) := by
    simp only [execOp, hop, hx, hy, Sem.run_bind, hr0, Result.andThen_ok, Sem.run_pure]
    rfl
  have qo : Qt (execOp a.eval o) := by simp only [execOp, hop]; exact .bind qt_makeS fun _ => .pure
  exact ⟨_, fun e he => qo.ev e (seen_sub e he), stepG_value ho hw hk hr⟩
theorem ends_ms {S₀ : Nat → Prop} {a : Act} {w : World} {ops : Array Oper} {i : Nat} {rest : List Nat} {o : Oper} {x y : Operand} (ho : ops[i]? = some o) (hw : Region.wanted o (yielded ops a.tmps) = true) (hk : b.kind ≠ .early) (hop : o.op = .makeSlice 23 x y)
    (hx : a.eval x = .int .i64 n) (hy : a.eval y = .int .i64 n) (hn : n < 2147483648) (hS : ∀ r, S₀ r → r < w.heap.size)
    (h : ∀ w₁, AtRel w w₁ → Ends Tryz.prog Post (shunOf S₀) (G (b.at (a.put o.dst (.slice (some ⟨w.heap.size, 0, none⟩) n n)) (.inRegion ops rest :: k)) cs) (w₁.alloc (.cells (madeCells #[.int .i64 0] n) 3))) : Ends Tryz.prog Post (shunOf S₀) (G (b.at a (.inRegion ops (i :: rest) :: k)) cs) w :=
  Ends.step rfl fun w₁ h₁ => by
    obtain ⟨d, rfl⟩ := id h₁
    obtain ⟨es, h2, h3⟩ := stepG_ms (cs := cs) (k := k) (rest := rest) (b := b) (w := w.at d) ho hw hk hop hx hy hn
    exact ⟨_, _, es, h3, by simp, noEmb_ev hS h2, h _ h₁⟩
end
end Go.Proofs.YtdjoodbidcncaaaGreatDoor.AW

/- impl.each: from where out is made to the return. -/
namespace Go.Proofs.YtdjoodbidcncaaaGreatDoor.AW
open Go Go.Conc Go.ConcN Go.RowKit Go.Conc.Lib Go.ConcR.Gen Go.ConcN.Gen
open Go.ConcR (KK wgBlock WgAt stA smA rd wr mk Payload Aside2 DC0 Bk g_of_ofEvents)
noncomputable def eTailC : Code := eachBody.r.r
section
variable {S₀ : Nat → Prop} {q : WP} {N n c : Nat} {Post : Value → World → Prop} {W : World} {b : Frame} {k : List Item} {cs : List Frame} {aa ab : Option Addr}
theorem stepG_al {main : Bool} {t : TypeId} {v : Value} {a : Act} {w : World} {ops : Array Oper} {i : Nat} {rest : List Nat} {o : Oper} (ho : ops[i]? = some o) (hw : Region.wanted o (yielded ops a.tmps) = true) (hk : b.kind ≠ .early) (hop : o.op = .alloc t)
    (hz : ∀ w, Sem.run Tryz.prog (zeroValue t) w = .ok v w) (hs : ∀ w, Sem.run Tryz.prog (Go.sizeOf t) w = .ok v.cells.size w) (hpos : v.cells.size ≠ 0) :
    stepG Tryz.prog main (G (b.at a (.inRegion ops (i :: rest) :: k)) cs) w = .go (G (b.at (a.put o.dst (.pointer (some ⟨w.heap.size, 0, none⟩))) (.inRegion ops rest :: k)) cs) (w.alloc (.cells v.cells t)) #[] := by
  have hr : (execOp a.eval o).run Tryz.prog w = .ok (.value (.pointer (some ⟨w.heap.size, 0, none⟩))) (w.alloc (.cells v.cells t)) := by
    unfold execOp
    simp only [hop]
    simp [go_sem, hz, hs, hpos]
  have he : (execOp a.eval o).events Tryz.prog w #[] = #[] := by
    unfold execOp
    simp only [hop]
    simp [go_sem, hz, hs, hpos]
  rw [stepG_value ho hw hk hr]
  unfold listed
  rw [he, seen_none]
theorem stepG_st {main : Bool} {t : TypeId} {va : Option Addr} {vn vc : Nat} {a : Act} {w : World} {ops : Array Oper} {i : Nat} {rest : List Nat} {o : Oper} {x y : Operand} (ho : ops[i]? = some o) (hw : Region.wanted o (yielded ops a.tmps) = true) (hk : b.kind ≠ .early) (hop : o.op = .store t x y)
    (hag : ∀ w, Sem.run Tryz.prog (isAgg t) w = .ok false w) (hs : ∀ w, Sem.run Tryz.prog (Go.sizeOf t) w = .ok 1 w)
    {ad : Addr} {u : Value} (hx : a.eval x = .pointer (some ad)) (hy : a.eval y = .slice va vn vc) (hc : w.cell? ad = some u) (hz : w.frozen? ad = false) (hq : (Tryz.prog.funcs[b.fn]?).any (·.norace) = false) :
    stepG Tryz.prog main (G (b.at a (.inRegion ops (i :: rest) :: k)) cs) w = .go (G (b.at (a.put o.dst undef) (.inRegion ops rest :: k)) cs) (w.setCell ad (.slice va vn vc)) #[⟨.cell ad, true, false⟩] := by
  have hr : (execOp a.eval o).run Tryz.prog w = .ok .skip (w.setCell ad (.slice va vn vc)) := by
    unfold execOp
    simp only [hop, hx, hy]
    simp [go_sem, stored, hc, hz, hag, hs]
  have he : (execOp a.eval o).events Tryz.prog w #[] = #[⟨.cell ad, true, false⟩] := by
    unfold execOp
    simp only [hop, hx, hy]
    simp [go_sem, events_store Tryz.prog w _ ad (.slice va vn vc) _ rfl, storedEv, hc, hz, hag, hs]
  rw [stepG_none ho hw hk hr]
  unfold listed
  rw [he, seen_eq hq (by simp)]
set_option maxRecDepth 100000 in
set_option maxHeartbeats 4000000 in
theorem eTail (hl : ELie S₀ q N n) (hk : b.kind ≠ .early) (hb : b.fn = 72) (hfn : ∀ k, k < n → WFn Tryz.prog q.mkf (q.xs k) (q.ys k) (q.zs k))
    (hfin : ∀ T w, T.size = 39 → T[6]? = some (.slice (some ⟨N, 0, none⟩) n n) → T[7]? = some (.bool true) → EF W q N n (.slice aa n q.ca) (.slice ab n q.cb) w → ∀ todo, Ends Tryz.prog Post (shunOf (eSh S₀ N)) (G (b.at ⟨T, []⟩ (.code .ret :: todo)) cs) w)
    (T : Array Value) (hsz : T.size = 39) (t3 : T[3]? = some (.pointer (some ⟨q.Ba, 0, none⟩))) (t4 : T[4]? = some (.pointer (some ⟨q.Bb, 0, none⟩))) (t5 : T[5]? = some (.pointer (some ⟨q.Bf, 0, none⟩))) (hsn : ¬ S₀ q.Ba)
    (w : World) (hF : EA W q N n 0 (.slice aa n q.ca) (.slice ab n q.cb) w) : Ends Tryz.prog Post (shunOf S₀) (G (b.at ⟨T, []⟩ (.code eTailC :: k)) cs) w := by
  have rl : ∀ {s : Nat} {w w₁ : World}, EA W q N n s (.slice aa n q.ca) (.slice ab n q.cb) w → AtRel w w₁ → EA W q N n s (.slice aa n q.ca) (.slice ab n q.cb) w₁ := fun h r => h.rely r
  have hnn := hl.n
  obtain ⟨v0, v1, v2, v3, v4, v5, v6, v7, v8, v9, v10, v11, v12, v13, v14, v15, v16, v17, v18, v19, v20, v21, v22, v23, v24, v25, v26, v27, v28, v29, v30, v31, v32, v33, v34, v35, v36, v37, v38, rfl⟩ := array39 T hsz
  simp only [List.getElem?_toArray, List.getElem?_cons_zero, List.getElem?_cons_succ, Option.some.injEq] at t3 t4 t5
  subst t3 t4 t5
  refine Ends.of_goes (m := 40) ?_
  simp only [eTailC, eachBody, Tryz.f72, Option.getD_some, Code.r, Code.l, Code.inn]
  (u_c stepG_seq rl hF; u_reg rl hF)
  refine Goes.stop fun w₁ h₁ => ?_
  replace hF := rl hF h₁
  clear h₁
  refine Ends.step rfl fun w₂ h₂ => ?_
  replace hF := rl hF h₂
  clear h₂
  refine ⟨_, w₂, _, stepG_ld rfl rfl hk rfl Tryz.sizeOf23 Tryz.isAgg23 (loudF hb) rfl hF.av, Nat.le_refl _, fun e he => ?_, ?_⟩
  · simp at he
    subst he
    refine evL_cell _ _ ?_ (cell_below hF.av)
    rintro ⟨a, e, hs⟩
    cases e
    exact hsn hs
  refine Ends.of_goes (m := 40) ?_
  walk_nrm
  (u_op rl hF)
  refine Goes.stop fun w₃ h₃ => ?_
  replace hF := rl hF h₃
  clear h₃
  -- out's cells
  refine ends_ms rfl rfl hk rfl rfl rfl hnn (fun r hr => by have := hl.sh r hr; rw [hF.size]; omega) fun w₄ h₄ => ?_
  replace hF := rl hF h₄
  rw [show w₃.heap.size = N from by obtain ⟨d, rfl⟩ := h₄; exact hF.size]
  clear h₄
  have hB : EA W q N n 1 (.slice aa n q.ca) (.slice ab n q.cb) (w₄.alloc (.cells (madeCells #[.int .i64 0] n) 3)) ∧ PayAt N n (w₄.alloc (.cells (madeCells #[.int .i64 0] n) 3)) := by
    refine ⟨hF.turn (by simp [hF.size]) (fun b' h1 => Below.heap_alloc _ _ _ (by rw [hF.size]; omega)) ⟨rfl, rfl, rfl⟩, madeCells #[.int .i64 0] n, ?_, size_madeCells _ _⟩
    have := heap_alloc_new w₄ (.cells (madeCells #[.int .i64 0] n) 3)
    rwa [hF.size] at this
  generalize w₄.alloc (.cells (madeCells #[.int .i64 0] n) 3) = w₅ at hB ⊢
  clear hF
  -- the variable out
  refine Ends.step rfl fun w₆ h₆ => ?_
  obtain ⟨hF, hP⟩ := hB
  replace hF := rl hF h₆
  replace hP : PayAt N n w₆ := by obtain ⟨d, rfl⟩ := h₆; exact hP
  clear h₆
  refine ⟨_, _, _, stepG_al rfl rfl hk rfl Tryz.zeroValue23 Tryz.sizeOf23 (by decide), by simp, fun e he => by simp at he, ?_⟩
  have hB : EA W q N n 2 (.slice aa n q.ca) (.slice ab n q.cb) (w₆.alloc (.cells (Value.slice none 0 0).cells 23)) ∧ PayAt N n (w₆.alloc (.cells (Value.slice none 0 0).cells 23)) ∧ (w₆.alloc (.cells (Value.slice none 0 0).cells 23)).heap[N + 1]? = some (.cells #[.slice none 0 0] 23) := by
    refine ⟨hF.turn (by simp [hF.size]) (fun b' h1 => Below.heap_alloc _ _ _ (by rw [hF.size]; omega)) ⟨rfl, rfl, rfl⟩, ?_, ?_⟩
    · obtain ⟨arr, h1, h2⟩ := hP
      exact ⟨arr, (Below.heap_alloc _ _ _ (by rw [hF.size]; omega)).trans h1, h2⟩
    · have := heap_alloc_new w₆ (.cells (Value.slice none 0 0).cells 23)
      rwa [hF.size] at this
  rw [hF.size]
  generalize w₆.alloc (.cells (Value.slice none 0 0).cells 23) = w₇ at hB ⊢
  clear hF hP
  refine Ends.step rfl fun w₈ h₈ => ?_
  obtain ⟨hF, hP, hO⟩ := hB
  replace hF := rl hF h₈
  replace hP : PayAt N n w₈ := by obtain ⟨d, rfl⟩ := h₈; exact hP
  replace hO : w₈.heap[N + 1]? = some (.cells #[.slice none 0 0] 23) := by obtain ⟨d, rfl⟩ := h₈; exact hO
  clear h₈
  have hc8 : w₈.cell? ⟨N + 1, 0, none⟩ = some (.slice none 0 0) := by simp [World.cell?, hO]
  have hz8 : w₈.frozen? ⟨N + 1, 0, none⟩ = false := by simp [World.frozen?, hO]
  have hA := aside_setCell w₈ ⟨N + 1, 0, none⟩ (.slice (some ⟨N, 0, none⟩) n n)
  refine ⟨_, _, _, stepG_st (va := some ⟨N, 0, none⟩) (vn := n) (vc := n) (ad := ⟨N + 1, 0, none⟩) rfl rfl hk rfl Tryz.isAgg23 Tryz.sizeOf23 rfl rfl hc8 hz8 (loudF hb), Nat.le_of_eq hA.size.symm, fun e he => ?_, ?_⟩
  · simp at he
    subst he
    refine evL_cell _ _ ?_ (by rw [hA.size]; exact cell_below hc8)
    rintro ⟨a, e, hs⟩
    cases e
    have : N + 1 < N := hl.sh _ hs
    omega
  have hB : EA W q N n 2 (.slice aa n q.ca) (.slice ab n q.cb) (w₈.setCell ⟨N + 1, 0, none⟩ (.slice (some ⟨N, 0, none⟩) n n)) ∧ PayAt N n (w₈.setCell ⟨N + 1, 0, none⟩ (.slice (some ⟨N, 0, none⟩) n n)) ∧ (w₈.setCell ⟨N + 1, 0, none⟩ (.slice (some ⟨N, 0, none⟩) n n)).heap[N + 1]? = some (.cells #[.slice (some ⟨N, 0, none⟩) n n] 23) := by
    refine ⟨hF.turn (hA.size.trans hF.size) (fun b' h1 => hA.block b' (by show b' ≠ N + 1; omega)) ⟨hA.os, hA.tape, hA.output⟩, ?_, ?_⟩
    · obtain ⟨arr, h1, h2⟩ := hP
      exact ⟨arr, (hA.block N (by show N ≠ N + 1; omega)).trans h1, h2⟩
    · rw [setCell_eq_setRow w₈ (N + 1) 0 _ _ (0, 0) _ hO, setRow_heap w₈ _ _ _ _ _ hO]
      rfl
  generalize w₈.setCell ⟨N + 1, 0, none⟩ (.slice (some ⟨N, 0, none⟩) n n) = w₉ at hB ⊢
  clear hF hP hO hc8 hz8 hA
  have hF := hB
  clear hB
  clear rl
  have rl : ∀ {w w₁ : World}, EA W q N n 2 (.slice aa n q.ca) (.slice ab n q.cb) w ∧ PayAt N n w ∧ w.heap[N + 1]? = some (.cells #[.slice (some ⟨N, 0, none⟩) n n] 23) → AtRel w w₁ → EA W q N n 2 (.slice aa n q.ca) (.slice ab n q.cb) w₁ ∧ PayAt N n w₁ ∧ w₁.heap[N + 1]? = some (.cells #[.slice (some ⟨N, 0, none⟩) n n] 23) := fun h r => ⟨h.1.rely r, by obtain ⟨d, rfl⟩ := r; exact h.2⟩
  refine Ends.of_goes (m := 40) ?_
  walk_nrm
  (u_c stepG_region_end rl hF; u_c stepG_seq rl hF; u_reg rl hF)
  refine Goes.stop fun x₁ h₁ => ?_
  replace hF := rl hF h₁
  clear h₁
  -- the group
  have hx : x₁.heap.size = N + 2 := hF.1.size
  refine Ends.begin (ty := link.tWg) rfl (ePh S₀ q N n) (fun c => ⟨rfl, by rw [hx]; rfl, rfl⟩) (fun c hc => ePh_ok hl hc) (fun c l ⟨a, e, hs⟩ => ⟨a, e, .inl hs⟩) (fun x₂ h₂ => (stepG_al rfl rfl hk rfl Tryz.zeroValue148 Tryz.sizeOf148 (by decide)).trans (by rw [show x₂.heap.size = N + 2 from (rl hF h₂).1.size]; rfl)) (fun c => hF.2.1) fun c hc => ?_
  have hG : EK W q N n 0 (.slice aa n q.ca) (.slice ab n q.cb) { x₁ with heap := x₁.heap.push (wgBlock link.tWg 0 0) } := by
    have low : ∀ b', b' < N + 2 → (x₁.heap.push (wgBlock link.tWg 0 0))[b']? = x₁.heap[b']? := fun b' h => by rw [Array.getElem?_push, if_neg (by omega)]
    have hE := hF.1.turn (w' := { x₁ with heap := x₁.heap.push (wgBlock link.tWg 0 0) }) (s' := 3) (by simp [hx]) (fun b' h => low b' (by omega)) ⟨rfl, rfl, rfl⟩
    refine ⟨hE.io, hE.low, hE.size, ?_, hE.fv, hE.av, hE.bv, hE.sa, hE.sb, hE.xv, hE.yv, 0, 0, ?_⟩
    · have := (low (N + 1) (by omega)).trans hF.2.2
      simp [World.cell?, this]
    · show (x₁.heap.push _)[N + 2]? = _
      rw [← hx]; simp
  generalize ({ x₁ with heap := x₁.heap.push (wgBlock link.tWg 0 0) } : World) = x₃ at hG ⊢
  clear hF rl
  have hF := hG
  clear hG
  have O := ePh_ok hl hc
  have hpn : 0 + pend .anch ≤ (ePh S₀ q N n c).n := by simp [pend]
  have rl : ∀ {w w₁ : World}, EK W q N n 0 (.slice aa n q.ca) (.slice ab n q.cb) w → RC link.tWg (N + 2) N w w₁ → EK W q N n 0 (.slice aa n q.ca) (.slice ab n q.cb) w₁ := fun h r => h.rely hl r
  refine EJ.of_goes O hpn (by simp) (m := 40) ?_
  walk_nrm
  (u_c stepG_region_end rl hF; u_c stepG_seq rl hF; u_c stepG_seq rl hF; u_reg rl hF)
  refine Goes.stop fun x₄ h₄ => ?_
  replace hF := rl hF h₄
  clear h₄
  refine EJ.idle O hpn (by simp) rfl fun x₅ h₅ => ?_
  replace hF := rl hF h₅
  clear h₅
  refine ⟨_, x₅, _, stepG_ld rfl rfl hk rfl Tryz.sizeOf23 Tryz.isAgg23 (loudF hb) rfl hF.av, fun _ _ => rfl, fun e he => ?_, Nat.le_refl _, ?_⟩
  · simp at he
    subst he
    refine ⟨⟨fun x hx => ?_, by simp, cell_below hF.av⟩, by simp, by simp⟩
    simp only [Go.ConcR.ofEvent_cell, MemAct.touch?, Option.some.injEq] at hx
    subst hx
    have hro := hl.ro q.Ba (by simp [WP.ro])
    refine ⟨fun e => absurd rfl e, fun _ => ⟨fun ⟨a, e, hs⟩ => ?_, fun k hk => absurd hk (by omega), fun e => by cases e⟩⟩
    cases e
    rcases hs with hs | hs
    · exact hsn hs
    · have : q.Ba = N + 2 := hs
      omega
  refine EJ.of_goes O hpn (by simp) (m := 40) ?_
  walk_nrm
  (u_op rl hF; u_op rl hF; u_c stepG_region_end rl hF; u_c stepG_block rl hF; u_c stepG_loop rl hF)
  have hlp := @eLoop S₀ q N n c Post (.slice aa n q.ca) (.slice ab n q.cb) W b (.code eWaitC :: k) cs hl hc hk hb hfn (fun T w hT hF => eWait hl hc hk hb hfin T w hT hF) n 0 (by omega)
  simp only [eLoopC, eWaitC, eachBody, Tryz.f72, Option.getD_some, Code.r, Code.l, Code.inn] at hlp
  exact Goes.stop fun x₆ h₆ => hlp _ _ ⟨rfl, rfl, rfl, rfl, rfl, rfl, rfl, rfl⟩ (rl hF h₆)
end
end Go.Proofs.YtdjoodbidcncaaaGreatDoor.AW
