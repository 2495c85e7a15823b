/- sync.Mutex's Lock and Unlock, once, beside leavers. -/
import Derived.Test.YtdjoodbidcncaaaGreatDoorMAxCa
import Derived.Test.YtdjoodbidcncaaaGreatDoorMAxT
import Derived.Test.YtdjoodbidcncaaaGreatDoorMAxEk
set_option linter.unusedVariables false
set_option linter.unusedSimpArgs false
namespace Go.Proofs.YtdjoodbidcncaaaGreatDoor.AW
open Go Go.Conc Go.ConcN Go.RowKit Go.Conc.Lib Go.ConcR.Gen Go.ConcN.Gen
open Go.ConcR (mk DC0)
section
variable {P : Program} {Post : Value → World → Prop} {S : Loc → Prop} {d : Nat}
theorem EndsD.of_goes : ∀ {m : Nat} {g : Goroutine} {w : World}, Goes P true AtRel DC0 (EndsD P Post S d) m g w → EndsD P Post S d g w
  | 0, g, w, h => h w (atRel_refl w)
  | m + 1, g, w, h => by
    rcases h with h | ⟨hr, h⟩
    · exact h w (atRel_refl w)
    · refine EndsD.step hr fun w₁ h₁ => ?_
      have := h w₁ h₁
      cases hs : stepG P true g w₁ <;> rw [hs] at this <;> simp only [GStep.goes] at this
      obtain ⟨⟨rfl, rfl⟩, hg⟩ := this
      exact ⟨_, _, _, rfl, Nat.le_refl _, fun e he => by simp at he, EndsD.of_goes hg⟩
theorem EndsD.leave0 {f : FuncId} {fn : Func} {a : Act} {todo : List Item} {c : Frame} {cs : List Frame} {w : World} (hd : a.defers = []) (hf : P.funcs[f]? = some fn) (hr : fn.results = #[]) (h : EndsD P Post S d (G (c.finish (.tuple #[])) cs) w) : EndsD P Post S d (G { (base f).at a todo with mode := .returning } (c :: cs)) w :=
  EndsD.quiet rfl (fun w₁ _ => by
    rw [stepG_leaveE (b := base f) rfl hd hf (results_none hr _ P w₁), events_results_none hr]
    simp [seen_def]) h
end
/-- the lock's word -/
abbrev LkAt (w₀ : World) (ad : Addr) (n : Int) (w : World) : Prop := AtRel w₀ w ∧ w.cell? ad = some (.int .i32 n) ∧ w.frozen? ad = false ∧ ad.block < w.heap.size
theorem rkL {w₀ : World} {ad : Addr} {n : Int} {w w₁ : World} (h : LkAt w₀ ad n w) (r : AtRel w w₁) : LkAt w₀ ad n w₁ := by
  obtain ⟨d, rfl⟩ := r
  exact ⟨atRel_trans _ _ _ h.1 ⟨d, rfl⟩, h.2⟩
theorem LkAt.set {w₀ w : World} {ad : Addr} {n : Int} (h : LkAt w₀ ad n w) (m : Int) : LkAt (w₀.setCell ad (.int .i32 m)) ad m (w.setCell ad (.int .i32 m)) := by
  obtain ⟨⟨d, rfl⟩, h2, h3, h4⟩ := h
  exact ⟨⟨d, rfl⟩, World.cell?_setCell_same _ _ _ h2, by simpa using h3, by simpa using h4⟩
theorem evD_atomic {S : Loc → Prop} {B : Nat} {ad : Addr} (h : ad.block < B) : ∀ e ∈ (#[⟨.cell ad, false, true⟩, ⟨.cell ad, true, true⟩] : Array Event), EvD S B e := fun e he => by
  have key : ∀ wr, EvD S B ⟨.cell ad, wr, true⟩ := fun wr => by
    refine ⟨fun x hx _ => ?_, h⟩
    simp only [MemAct.ofEvent, MemAct.touch?, Option.some.injEq] at hx
    subst hx
    intro e
    cases e
  simp at he
  rcases he with rfl | rfl <;> exact key _
theorem usL : Program.underlying Tryz.prog 235 = some (.pointer 116) := Tryz.underlying235
theorem zsL : (Tryz.prog.info? 116).map (fun i => decide (i.size = 0)) = some false := by kernel_rfl
theorem nmL2 : (Tryz.f197.name == "runtime.NumGoroutine") = false := by kernel_rfl
theorem evD_mark {S : Loc → Prop} {B : Nat} {m : Mark} (h : (MemAct.ofEvent ⟨.mark m, false, true⟩).touch? = none) (hl : ∀ _ : Unit, (MemAct.ofEvent ⟨.mark m, false, true⟩).low B) : ∀ e ∈ (#[⟨.mark m, false, true⟩] : Array Event), EvD S B e := fun e he => by
  simp at he
  subst he
  exact ⟨fun x hx => (by rw [h] at hx; cases hx), hl ()⟩
set_option maxRecDepth 100000 in
set_option maxHeartbeats 8000000 in
theorem lockE {w : World} {S : Sh} {ad : Addr} (hF : LkAt w ad 0 w) : CallsE Tryz.prog 149 #[.pointer (some ad)] w S fun v w' S' => v = .tuple #[] ∧ S' = S ∧ AtRel (w.setCell ad (.int .i32 1)) w' := fun Post c cs hc => by
  refine EndsD.to ?_
  rw [enter_at _ Tryz.func149 rfl]
  refine EndsD.of_goes (m := 40) ?_
  simp only [Tryz.f149]
  walk_nrm
  u_reg rkL hF
  u_op rkL hF
  u_op rkL hF
  u_op rkL hF
  u_call Tryz.func197 nmL2 Tryz.f197 rkL hF
  u_c stepG_seq rkL hF
  u_reg rkL hF
  refine Goes.stop (fun w₁ h₁ => ?_)
  replace hF := rkL hF h₁
  clear h₁
  refine EndsD.step rfl fun w₂ h₂ => ?_
  replace hF := rkL hF h₂
  clear h₂
  refine ⟨_, w₂, _, stepG_mark0 .disable (by simp) rfl rfl (by k_ne) rfl Tryz.func167 (by kernel_rfl) (by kernel_rfl) (by kernel_rfl) (by kernel_rfl), Nat.le_refl _, evD_mark (by rfl) (fun _ => trivial), ?_⟩
  rw [show deafBehind 0 #[⟨.mark .disable, false, true⟩] = 1 from rfl]
  refine EndsD.of_goes (m := 40) ?_
  walk_nrm
  u_c stepG_region_end rkL hF
  u_c stepG_seq rkL hF
  u_c stepG_seq rkL hF
  u_reg rkL hF
  u_op rkL hF
  u_op rkL hF
  u_op rkL hF
  refine Goes.stop (fun w₁ h₁ => ?_)
  replace hF := rkL hF h₁
  clear h₁
  refine EndsD.step rfl fun w₂ h₂ => ?_
  replace hF := rkL hF h₂
  clear h₂
  refine ⟨_, _, _, stepG_cas_hit rfl rfl (by k_ne) rfl Tryz.func218 (by kernel_rfl) (by kernel_rfl) (by kernel_rfl) .i32 (by kernel_rfl) rfl rfl rfl hF.2.1 hF.2.2.1, ?_, ?_, ?_⟩
  · simp
  · exact evD_atomic (by simpa using hF.2.2.2)
  replace hF := hF.set 1
  rw [show deafBehind 1 #[⟨.cell ad, false, true⟩, ⟨.cell ad, true, true⟩] = 1 from rfl]
  refine EndsD.of_goes (m := 40) ?_
  walk_nrm
  u_c stepG_region_end rkL hF
  u_cond true rkL hF
  u_c stepG_seq rkL hF
  u_cond true rkL hF
  u_c stepG_seq rkL hF
  u_reg rkL hF
  refine Goes.stop (fun w₁ h₁ => ?_)
  replace hF := rkL hF h₁
  clear h₁
  refine EndsD.step rfl fun w₂ h₂ => ?_
  replace hF := rkL hF h₂
  clear h₂
  refine ⟨_, w₂, _, stepG_mark0 .enable (by simp) rfl rfl (by k_ne) rfl Tryz.func168 (by kernel_rfl) (by kernel_rfl) (by kernel_rfl) (by kernel_rfl), Nat.le_refl _, evD_mark (by rfl) (fun _ => trivial), ?_⟩
  rw [show deafBehind 1 #[⟨.mark .enable, false, true⟩] = 0 from rfl]
  refine EndsD.of_goes (m := 40) ?_
  walk_nrm
  u_c stepG_region_end rkL hF
  u_reg rkL hF
  u_op rkL hF
  (u_in rkL hF
   refine goes_oper_k rfl rfl (by k_ne) (fun Kx hKx => ?_)
   have hcv := run_convert_to_unsafe (P := Tryz.prog) usL Tryz.underlying169 zsL hF.2.1
   have hce := fun es => events_convert_to_unsafe (P := Tryz.prog) usL Tryz.underlying169 zsL hF.2.1 es
   go_simp
   refine hKx _ _ ⟨?_, ?_⟩
   · refine dc0_none ?_
     intro ex hex
     have hmx := mem_listed hex
     simp [go_sem, hce] at hmx
   clear hKx Kx hcv hce)
  refine Goes.stop (fun w₁ h₁ => ?_)
  replace hF := rkL hF h₁
  clear h₁
  refine EndsD.step rfl fun w₂ h₂ => ?_
  replace hF := rkL hF h₂
  clear h₂
  refine ⟨_, w₂, _, stepG_markAt .acquire (by simp) rfl rfl (by k_ne) rfl Tryz.func179 (by kernel_rfl) (by kernel_rfl) (by kernel_rfl) (by kernel_rfl) (by simp [Act.eval]), Nat.le_refl _, evD_mark (by rfl) (fun _ => hF.2.2.2), ?_⟩
  rw [show deafBehind 0 #[⟨.mark (.acquire ad), false, true⟩] = 0 from rfl]
  refine EndsD.of_goes (m := 40) ?_
  walk_nrm
  u_c stepG_region_end rkL hF
  u_c stepG_ret' rkL hF
  u_leave0 Tryz.func197 rkL hF
  u_c stepG_region_end rkL hF
  u_c stepG_end rkL hF
  refine Goes.stop (fun w₁ h₁ => ?_)
  replace hF := rkL hF h₁
  clear h₁
  exact EndsD.leave0 rfl Tryz.func149 rfl (.of (hc _ _ _ ⟨rfl, rfl, hF.1⟩))
end Go.Proofs.YtdjoodbidcncaaaGreatDoor.AW

/- sync.Mutex's Unlock, deferred, beside leavers. -/
namespace Go.Proofs.YtdjoodbidcncaaaGreatDoor.AW
open Go Go.Conc Go.ConcN Go.RowKit Go.Conc.Lib Go.ConcR.Gen Go.ConcN.Gen
open Go.ConcR (mk DC0)
theorem nmU1 : (Tryz.f150.name == "runtime.NumGoroutine") = false := by kernel_rfl
theorem nmU2 : (Tryz.f198.name == "runtime.NumGoroutine") = false := by kernel_rfl
theorem nrU2 : Tryz.f198.norace = true := rfl
set_option maxRecDepth 100000 in
set_option maxHeartbeats 8000000 in
theorem unlockD {Post : Value → World → Prop} {w : World} {S : Sh} {ad : Addr} (hF : LkAt w ad 1 w) {b : Frame} {a : Act} {todo : List Item} {ds : List Deferred} {cs : List Frame} (hd : a.defers = dcall 150 #[.pointer (some ad)] :: ds)
    (h : ∀ w', AtRel (w.setCell ad (.int .i32 0)) w' → Ends Tryz.prog Post S (G { b.at ⟨a.tmps, ds⟩ todo with mode := .returning } cs) w') : Ends Tryz.prog Post S (G { b.at a todo with mode := .returning } cs) w := by
  refine EndsD.to ?_
  refine EndsD.quiet rfl (fun w₁ _ => stepG_unwind_enter hd Tryz.func150 nmU1 rfl) ?_
  obtain ⟨c, hcc⟩ : ∃ c : Frame, c = { b.at ⟨a.tmps, ds⟩ todo with mode := .returning } := ⟨_, rfl⟩
  have hcm : c.mode = .returning := by rw [hcc]
  rw [← hcc] at h ⊢
  clear hcc hd
  refine EndsD.of_goes (m := 60) ?_
  simp only [Tryz.f150]
  walk_nrm
  u_reg rkL hF
  u_op rkL hF
  u_op rkL hF
  u_op rkL hF
  u_call Tryz.func198 nmU2 Tryz.f198 rkL hF
  u_c stepG_seq rkL hF
  u_cond true rkL hF
  u_c stepG_seq rkL hF
  u_reg rkL hF
  u_op rkL hF
  u_op rkL hF
  u_op rkL hF
  (u_in rkL hF
   have hc1 := hF.2.1
   refine goes_oper_k rfl rfl (by k_ne) (fun K hK => ?_)
   go_simp
   refine hK _ _ ⟨?_, ?_⟩
   · refine dc0_none ?_
     intro e he
     have hb : (base 198).fn = 198 := rfl
     simp [listed, seen_def, go_sem, hc1] at he
     simp [seenStep, hb] at he
     rw [nrU2] at he
     cases he.1
   clear hK K hc1)
  u_c stepG_region_end rkL hF
  u_c stepG_seq rkL hF
  u_reg rkL hF
  u_op rkL hF
  (u_in rkL hF
   refine goes_oper_k rfl rfl (by k_ne) (fun Kx hKx => ?_)
   have hcv := run_convert_to_unsafe (P := Tryz.prog) usL Tryz.underlying169 zsL hF.2.1
   have hce := fun es => events_convert_to_unsafe (P := Tryz.prog) usL Tryz.underlying169 zsL hF.2.1 es
   go_simp
   refine hKx _ _ ⟨?_, ?_⟩
   · refine dc0_none ?_
     intro ex hex
     have hmx := mem_listed hex
     simp [go_sem, hce] at hmx
   clear hKx Kx hcv hce)
  refine Goes.stop (fun w₁ h₁ => ?_)
  replace hF := rkL hF h₁
  clear h₁
  refine EndsD.step rfl fun w₂ h₂ => ?_
  replace hF := rkL hF h₂
  clear h₂
  refine ⟨_, w₂, _, stepG_markAt .releaseMerge (by simp) rfl rfl (by k_ne) rfl Tryz.func166 (by kernel_rfl) (by kernel_rfl) (by kernel_rfl) (by kernel_rfl) (by simp [Act.eval]), Nat.le_refl _, evD_mark (by rfl) (fun _ => hF.2.2.2), ?_⟩
  rw [show deafBehind 0 #[⟨.mark (.releaseMerge ad), false, true⟩] = 0 from rfl]
  refine EndsD.of_goes (m := 40) ?_
  walk_nrm
  u_c stepG_region_end rkL hF
  u_reg rkL hF
  refine Goes.stop (fun w₁ h₁ => ?_)
  replace hF := rkL hF h₁
  clear h₁
  refine EndsD.step rfl fun w₂ h₂ => ?_
  replace hF := rkL hF h₂
  clear h₂
  refine ⟨_, w₂, _, stepG_mark0 .disable (by simp) rfl rfl (by k_ne) rfl Tryz.func167 (by kernel_rfl) (by kernel_rfl) (by kernel_rfl) (by kernel_rfl), Nat.le_refl _, evD_mark (by rfl) (fun _ => trivial), ?_⟩
  rw [show deafBehind 0 #[⟨.mark .disable, false, true⟩] = 1 from rfl]
  refine EndsD.of_goes (m := 40) ?_
  walk_nrm
  u_c stepG_region_end rkL hF
  u_c stepG_seq rkL hF
  u_reg rkL hF
  u_op rkL hF
  u_op rkL hF
  u_op rkL hF
  refine Goes.stop (fun w₁ h₁ => ?_)
  replace hF := rkL hF h₁
  clear h₁
  refine EndsD.step rfl fun w₂ h₂ => ?_
  replace hF := rkL hF h₂
  clear h₂
  refine ⟨_, _, _, stepG_add_atomic rfl rfl (by k_ne) rfl Tryz.func220 (by kernel_rfl) (by kernel_rfl) (by kernel_rfl) .i32 (by kernel_rfl) rfl rfl hF.2.1 hF.2.2.1, ?_, ?_, ?_⟩
  · simp
  · exact evD_atomic (by simpa using hF.2.2.2)
  rw [show IntKind.i32.wrap (1 + -1) = 0 from by decide]
  replace hF := hF.set 0
  rw [show deafBehind 1 #[⟨.cell ad, false, true⟩, ⟨.cell ad, true, true⟩] = 1 from rfl]
  refine EndsD.of_goes (m := 40) ?_
  walk_nrm
  u_op rkL hF
  u_c stepG_region_end rkL hF
  u_c stepG_seq rkL hF
  u_c stepG_seq rkL hF
  u_reg rkL hF
  u_op rkL hF
  u_op rkL hF
  u_c stepG_region_end rkL hF
  u_cond false rkL hF
  u_c stepG_skip rkL hF
  u_reg rkL hF
  refine Goes.stop (fun w₁ h₁ => ?_)
  replace hF := rkL hF h₁
  clear h₁
  refine EndsD.step rfl fun w₂ h₂ => ?_
  replace hF := rkL hF h₂
  clear h₂
  refine ⟨_, w₂, _, stepG_mark0 .enable (by simp) rfl rfl (by k_ne) rfl Tryz.func168 (by kernel_rfl) (by kernel_rfl) (by kernel_rfl) (by kernel_rfl), Nat.le_refl _, evD_mark (by rfl) (fun _ => trivial), ?_⟩
  rw [show deafBehind 1 #[⟨.mark .enable, false, true⟩] = 0 from rfl]
  refine EndsD.of_goes (m := 40) ?_
  walk_nrm
  u_c stepG_region_end rkL hF
  u_c stepG_end rkL hF
  u_leave0 Tryz.func198 rkL hF
  u_c stepG_region_end rkL hF
  u_c stepG_end rkL hF
  refine Goes.stop (fun w₁ h₁ => ?_)
  replace hF := rkL hF h₁
  clear h₁
  exact EndsD.quiet rfl (fun w₂ _ => stepG_leave_deferred rfl rfl Tryz.func150 (results_none rfl _ _ w₂) (events_results_none rfl _ _) hcm) (.of (h _ hF.1))
end Go.Proofs.YtdjoodbidcncaaaGreatDoor.AW

/- A lock that lies ahead in a struct of one's own is taken, in a walk. -/
namespace Go.Proofs.YtdjoodbidcncaaaGreatDoor.AW
open Go Go.Conc
/-- the first cell of a box is set -/
theorem box0_set {E : Emb} {H : Nat → Option Block} {w : World} {b : Nat} {x : AV} {rest : List AV} (hh : HInv E H w) (hb : H b = some (.box (x :: rest))) (n : Int) :
    HInv E (setH H b (some (.box (.cv (.sc (.int .i32 n)) :: rest)))) (w.setCell ⟨E.blk b, 0, none⟩ (.int .i32 n)) ∧ Ext E.U E w E (w.setCell ⟨E.blk b, 0, none⟩ (.int .i32 n)) := by
  obtain ⟨hg, cells, p, hs, hle, hc⟩ := hh.hp b _ hb
  simp only [List.length_cons] at hle
  obtain ⟨cells', g1, g2, g3, g4, g5, g6⟩ := setCells_heap (E.blk b) [.int .i32 n] 0 w cells p (by simp; omega)
  have prk : ∀ r, E.pr r → (w.setCells (E.blk b) 0 [.int .i32 n]).heap[r]? = w.heap[r]? := fun r hr => g6 r fun er => (hh.un b _ hb).2 hg (hh.prfr _ (er ▸ hr))
  refine hh.store (w' := w.setCells (E.blk b) 0 [.int .i32 n]) hb hg g5 g6 (sameIO_setCells _ _ _ _) ⟨hg, cells', g1, by rw [g2, hs], by simp only [List.length_cons]; omega, fun q y hy => ?_⟩
  cases q with
  | zero =>
    simp only [List.getElem?_cons_zero, Option.some.injEq] at hy
    subst hy
    have := g4 0 (by simp)
    simp [List.getD] at this
    rw [show cells'.getD 0 undef = .int .i32 n by simpa [Array.getD_eq_getD_getElem?] using this]
    exact .cv _ _ (.sc _ rfl)
  | succ q =>
    have hy' : (x :: rest)[q + 1]? = some y := by simpa using hy
    rw [g3 (q + 1) (.inr (by simp))]
    exact (hc (q + 1) y hy').mono prk (fun _ h => h) (fun _ h => ⟨h, rfl, rfl, .rfl⟩)
theorem lkAt_box {E : Emb} {H : Nat → Option Block} {w : World} {b : Nat} {n : Int} {rest : List AV} (hh : HInv E H w) (hb : H b = some (.box (.cv (.sc (.int .i32 n)) :: rest))) : LkAt w ⟨E.blk b, 0, none⟩ n w := by
  obtain ⟨hg, cells, p, hs, hle, hc⟩ := hh.hp b _ hb
  simp only [List.length_cons] at hle
  have h0 := rep_sc (hc 0 _ rfl)
  refine ⟨atRel_refl _, ?_, p.frozen (by omega), p.lt⟩
  rw [p.cell, ← h0]
  simp [Array.getD_eq_getD_getElem?, show 0 < cells.size by omega]
theorem nmL0 : (Tryz.f149.name == "runtime.NumGoroutine") = false := by kernel_rfl
section
variable {o : Oper} {N : Nat} {T : Nat → AV} {H : Nat → Option Block}
theorem lock_vc {nx : Nat} {K : Eff → Prop} {x : Operand} {ats : Array TypeId} (ho : o.op = .call { callee := .value (.func 149), args := #[x], argTypes := ats }) {b st : Nat} {rest : List AV} (hx : ev T x = .ptr b st 0 0)
    (hb : H b = some (.box (.cv (.sc (.int .i32 0)) :: rest))) (h : K ⟨.tup [], [(b, some (.box (.cv (.sc (.int .i32 1)) :: rest)))], [], [b]⟩) : CallVC ctx o N T H nx K := by
  have mx : x ∈ o.op.operands := by simp [ho, Op.operands, Call.operands]
  unfold CallVC
  refine ⟨_, fun T' H' g1 g2 fn E a w S K' ht hh hok hf next => ?_, rfl, h⟩
  obtain ⟨hU, e1⟩ := rep_ptr (rep_at ht (g1 x mx) hx)
  have hB := (g2 b (by simp)).trans hb
  have hF := lkAt_box hh hB
  obtain ⟨k1, k2⟩ := box0_set hh hB 1
  show opJ Tryz.prog fn o a w S K'
  have hrun : ∀ w₁, (execOp a.eval o).run Tryz.prog w₁ = .ok (.enter 149 #[.pointer (some ⟨E.blk b, 0, none⟩)]) w₁ ∧ (execOp a.eval o).events Tryz.prog w₁ #[] = #[] := fun w₁ => by
    have h0 := run_enter (C := ctx) (w := w₁) ho (show a.eval (.func 149) = .func (.func 149) #[] #[] from rfl) ⟨_, Tryz.func149, nmL0, rfl⟩
    rw [show (#[] ++ (#[x] : Array Operand).map a.eval ++ #[]) = #[.pointer (some ⟨E.blk b, 0 * st + 0, none⟩)] by simp [e1]] at h0
    have e3 : (⟨E.blk b, 0 * st + 0, none⟩ : Addr) = ⟨E.blk b, 0, none⟩ := by simp
    rw [e3] at h0
    exact h0
  refine .inr (.inl ⟨_, _, _, fun w₁ _ => ⟨(hrun w₁).1, fun e he => ?_⟩, lockE hF, fun v w' S' ⟨hv, hS, hr⟩ => ?_⟩)
  · have := seen_sub e he
    rw [(hrun w₁).2] at this
    simp at this
  · subst hv
    subst hS
    obtain ⟨hheap, hio⟩ := (company_sound Tryz.prog gl).rel hr
    obtain ⟨j1, j2⟩ := k1.same hheap hio
    have X := k2.trans' j2 fun _ h => h
    exact next _ E _ _ (.tup _ _ rfl fun k y hy => by simp at hy) j1 ((company_sound Tryz.prog gl).okExt hok X) ((company Tryz.prog gl).leRefl _ _) X (fun b => by simp)
end
end Go.Proofs.YtdjoodbidcncaaaGreatDoor.AW
