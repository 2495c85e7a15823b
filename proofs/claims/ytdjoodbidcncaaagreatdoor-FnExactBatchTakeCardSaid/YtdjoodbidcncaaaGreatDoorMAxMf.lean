/- A function that locks, defers the unlocking, and goes on: its contract. -/
import Derived.Test.YtdjoodbidcncaaaGreatDoorMAxMo
import Derived.Test.YtdjoodbidcncaaaGreatDoorMAxMb
import Derived.Test.YtdjoodbidcncaaaGreatDoorMAxPc
set_option linter.unusedVariables false
set_option linter.unusedSimpArgs false
namespace Go.Proofs.YtdjoodbidcncaaaGreatDoor.AW
open Go Go.Conc
section
variable {P : Program} {ti : Nat → Option TI} {tok : ∀ t i, ti t = some i → TIok P t i} {gl : List (Nat × Value)}
theorem Spec.dfs {f : FuncId} {args : List AV} {Hin : List Block} {res : AV} {Hout : List (Nat × Option Block)} {D : Deferred} (S : Spec (cx P ti tok gl) f args Hin res Hout) : Spec (cxD P ti tok gl D) f args Hin res Hout := ⟨S.bod, S.run⟩
/-- what the caller gets, blocks handed over -/
def GotH (P : Program) (gl : List (Nat × Value)) (n : Nat) (E0 : Emb) (w0 : World) (S0 : Sh) (res : AV) (Hout : List (Nat × Option Block)) (v : Value) (w : World) (S : Sh) : Prop :=
  ∃ E', RepA w E' res v ∧ HInv E' (geth Hout) w ∧ Ext (· < n) E0 w0 E' w ∧ (company P gl).ok S E' w ∧ (company P gl).le S0 w0.heap.size S
theorem spec_baseH {f : FuncId} {fn : Func} {c : Code} {args : List AV} {Hin : List Block} {res : AV} {Hout : List (Nat × Option Block)} (n : Nat) (hk : Hin.length = n) (hf : P.funcs[f]? = some fn) (hn : (fn.name == "runtime.NumGoroutine") = false) (hb : fn.body = some c) (hl : args.length ≤ fn.ntmps)
    (h : ∀ E a w S, Inv (company P gl) fn.ntmps n E ⟨tin 0 args, hin2 0 Hin, n⟩ a w S → a.defers = [] → ∀ (Post : Value → World → Prop) (cf : Frame) (cs : List Frame), (∀ v w' S', GotH P gl n E w S res Hout v w' S' → Ends P Post S' (G (cf.finish v) cs) w') → Ends P Post S (G ((base f).at a [.code c]) (cf :: cs)) w) :
    Spec (cx P ti tok gl) f args Hin res Hout := by
  subst hk
  refine ⟨⟨fn, hf, hn, by rw [hb]; rfl⟩, fun E w x vs hvl hvs hh hU hok => ?_⟩
  show CallsE P f vs.toArray w x _
  intro Post cf cs hc
  rw [enter_at _ hf hb]
  refine h E _ w x ⟨⟨fun t => ?_, by simp; omega, rfl⟩, ?_, fun b hb => (hU b).1 hb, fun b hb => (hU b).2 hb, hok⟩ rfl Post cf cs hc
  · simp only [get_tin, Nat.zero_le, if_true, Nat.sub_zero]
    cases ha : args[t]? with
    | none => exact .any _
    | some x =>
      have := hvs t x ha
      have hlt : t < vs.length := by rw [hvl]; exact (List.getElem?_eq_some_iff.1 ha).1
      have e : (vs.toArray ++ Array.replicate (fn.ntmps - vs.toArray.size) undef).getD t undef = vs.getD t undef := by
        simp only [Array.getD_eq_getD_getElem?]
        rw [Array.getElem?_append_left (by simpa using hlt)]
        simp [List.getD]
      rw [e]; exact this
  · have : geth (hin2 0 Hin) = hin Hin := by funext b; rw [geth_hin2]; simp [hin]
    simp only [this]; exact hh
theorem at_vcH (hm : P.follows .mixedOrders = true) {Post : Value → World → Prop} {f : FuncId} {N n : Nat} {x : Code} {kk : List Item} {cs : List Frame} {st : St} {K : St → Prop} {E : Emb} {a : Act} {w : World} {S : Sh} (h : vc (cx P ti tok gl) N n x st fun e st' => e = .normal ∧ K st') (hI : Inv (company P gl) N n E st a w S)
    (next : ∀ st' E' a' w' S', K st' → Inv (company P gl) N n E' st' a' w' S' → Ext (· < n) E w E' w' → (company P gl).le S w.heap.size S' → Ends P Post S' (G ((base f).at a' kk) cs) w') : Ends P Post S (G ((base f).at a (.code x :: kk)) cs) w := by
  have h1 := vc_ok (C := cx P ti tok gl) hm x _ _ h f E a w S hI
  rw [← Frame.atR_of_none (show (base f).roundOf = none from rfl)]
  refine h1 Post (base f) kk cs rfl ⟨by simp [base], .inl rfl⟩ fun e a' w' S' ⟨st', E', ⟨he, hk⟩, hI', hx', hle'⟩ => ?_
  subst he
  show Ends P Post S' (G ((base f).atR a' kk) cs) w'
  rw [Frame.atR_of_none (show (base f).roundOf = none from rfl)]
  exact next st' E' a' w' S' hk hI' hx' hle'
theorem q_val {Post : Value → World → Prop} {S : Sh} {f : FuncId} {a : Act} {ops : Array Oper} {i : Nat} {rest : List Nat} {k : List Item} {cs : List Frame} {w : World} {o : Oper} {v : Value} (ho : ops[i]? = some o) (hg : o.guard = none)
    (hr : ∀ w, (execOp a.eval o).run P w = .ok (.value v) w ∧ (execOp a.eval o).events P w #[] = #[]) (he : Ends P Post S (G ((base f).at (a.put o.dst v) (.inRegion ops rest :: k)) cs) w) : Ends P Post S (G ((base f).at a (.inRegion ops (i :: rest) :: k)) cs) w :=
  quiet rfl (fun w₁ => by
    rw [stepG_value ho (by simp [Region.wanted, hg]) (by simp [base]) (hr w₁).1]
    unfold listed
    rw [(hr w₁).2]
    simp [seen_def]) he
theorem eval_put {a : Act} {d : Nat} {v : Value} (h : d < a.tmps.size) : (a.put (some d) v).eval (.tmp d) = v := by
  simp [Act.put, Act.eval, Array.getD_eq_getD_getElem?, h]
theorem setT_any {T : Nat → AV} {d : Nat} (h : T d = .any) : setT T (some d) .any = T := by
  funext t
  show (if t = d then AV.any else T t) = T t
  split
  · rename_i e; rw [e, h]
  · rfl
/-- the lock's address, and the call that is deferred -/
theorem q_defer {Post : Value → World → Prop} {f g : FuncId} {N n d0 d1 d2 st0 t ty0 ty1 ty2 ty3 id : Nat} {ats : Array TypeId} {p0 p1 p2 p3 : String} {f0 f1 f2 f3 : Array Edge} {E : Emb} {st : St} {a : Act} {w : World} {S : Sh} {todo : List Item} {cs : List Frame}
    (hI : Inv (company P gl) N n E st a w S) (h0 : get st.T 0 = .ptr 0 st0 0 0) (hd : get st.T d0 = .any ∧ get st.T d1 = .any ∧ get st.T d2 = .any) (hN : 0 < d0 ∧ d0 < N ∧ d1 < N ∧ d2 < N) 
    (hfa : ∀ (ad : Addr) (w : World), (Instr.fieldAt t (.pointer (some ad)) 0).run P w = .ok (.pointer (some ad)) w ∧ (Instr.fieldAt t (.pointer (some ad)) 0).events P w #[] = #[])
    (next : ∀ tm, Inv (company P gl) N n E st ⟨tm, []⟩ w S → Ends P Post S (G ((base f).at (up (dcall g #[.pointer (some ⟨E.blk 0, 0, none⟩)]) ⟨tm, []⟩) todo) cs) w) :
    Ends P Post S (G ((base f).at a (.code (.region id #[⟨some d0, .move (.tmp 0), ty0, p0, f0, none⟩, ⟨some d1, .nilCheck (.tmp d0), ty1, p1, f1, none⟩, ⟨some d2, .fieldAddr t (.tmp d1) 0, ty2, p2, f2, none⟩, ⟨none, .defer { callee := .value (.func g), args := #[.tmp d2], argTypes := ats }, ty3, p3, f3, none⟩] false) :: todo)) cs) w := by
  refine quiet rfl (fun _ => stepG_region) ?_
  have hsz := hI.t.sz
  obtain ⟨tm, df⟩ := a
  obtain rfl : df = [] := hI.t.df
  have hsz : tm.size = N := hsz
  obtain ⟨pv, hpv⟩ : ∃ pv : Value, pv = .pointer (some ⟨E.blk 0, 0, none⟩) := ⟨_, rfl⟩
  have r0 : tm.getD 0 undef = pv := by
    have := (rep_ptr (h0 ▸ hI.t.tm 0)).2
    simpa [hpv] using this
  let a1 : Act := Act.put ⟨tm, []⟩ (some d0) pv
  let a2 : Act := a1.put (some d1) pv
  let a3 : Act := a2.put (some d2) pv
  have z1 : a1.tmps.size = N := by simp [a1, Act.put, hsz]
  have z2 : a2.tmps.size = N := by simp [a2, Act.put, z1]
  have v1 : a1.eval (.tmp d0) = pv := eval_put (by show d0 < tm.size; omega)
  have v2 : a2.eval (.tmp d1) = pv := eval_put (by omega)
  have v3 : a3.eval (.tmp d2) = pv := eval_put (by omega)
  refine q_val (v := pv) rfl rfl (fun w => ?_) ?_
  · have : Act.eval ⟨tm, []⟩ (.tmp 0) = pv := r0
    constructor <;> simp [execOp, this]
  refine q_val (v := pv) rfl rfl (fun w => ?_) ?_
  · show (execOp a1.eval _).run P w = _ ∧ (execOp a1.eval _).events P w _ = _
    constructor <;> simp [execOp, v1, hpv]
  refine q_val (v := pv) rfl rfl (fun w => ?_) ?_
  · show (execOp a2.eval _).run P w = _ ∧ (execOp a2.eval _).events P w _ = _
    have := hfa ⟨E.blk 0, 0, none⟩ w
    rw [← hpv] at this
    constructor <;> simp [execOp, v2, this.1, this.2]
  refine quiet rfl (fun _ => stepG_defer (b := base f) (a := a3) (f := g) rfl rfl (by simp [base]) rfl) ?_
  refine quiet rfl (fun _ => stepG_region_end) ?_
  have T1 := (((hI.t.put (some d0) (by simp; omega) (v := .any) (u := pv) (.any _)).put (some d1) (by simp; omega) (v := .any) (u := pv) (.any _)).put (some d2) (by simp; omega) (v := .any) (u := pv) (.any _))
  rw [setT_any hd.1, setT_any hd.2.1, setT_any hd.2.2] at T1
  have := next a3.tmps ⟨⟨T1.tm, T1.sz, rfl⟩, hI.h, hI.nx, hI.k, hI.ok⟩
  have e : (#[Operand.tmp d2].map a3.eval) = #[.pointer (some ⟨E.blk 0, 0, none⟩)] := by simp [v3, hpv]
  show Ends P Post S (G ((base f).at ⟨a3.tmps, dcall g (#[Operand.tmp d2].map a3.eval) :: []⟩ todo) cs) w
  rw [e]
  exact this
end
/-- what holds at the end, the lock let go -/
def LeftU (C : Ctx) (k nx : Nat) (rs : Array ResultVar) (res : AV) (Hout : List (Nat × Option Block)) (e : Exit) (st : St) : Prop := match geth st.H 0 with
  | some (.box (x :: rest)) => x = .cv (.sc (.int .i32 1)) ∧ Left C k nx rs res Hout e ⟨st.T, (0, some (.box (.cv (.sc (.int .i32 0)) :: rest))) :: st.H, st.nx⟩
  | _ => False
theorem LeftU.out {C : Ctx} {k nx : Nat} {rs : Array ResultVar} {res : AV} {Hout : List (Nat × Option Block)} {e : Exit} {st : St} (h : LeftU C k nx rs res Hout e st) : ∃ rest, geth st.H 0 = some (.box (.cv (.sc (.int .i32 1)) :: rest)) ∧ Left C k nx rs res Hout e ⟨st.T, (0, some (.box (.cv (.sc (.int .i32 0)) :: rest))) :: st.H, st.nx⟩ := by
  unfold LeftU at h
  split at h
  · rename_i x rest hx
    obtain ⟨rfl, h⟩ := h
    exact ⟨rest, hx, h⟩
  · exact h.elim
theorem lock_fin {f : FuncId} {fn : Func} (hf : Tryz.prog.funcs[f]? = some fn) {E0 E' : Emb} {w0 w' : World} {S0 S' : Sh} {tmps : Array Value} {n nx : Nat} {st : St} {Hout : List (Nat × Option Block)} {res : AV} {kc : Code} (hn : 0 < n)
    (hI : Inv (company Tryz.prog gl) fn.ntmps n E' st ⟨tmps, []⟩ w' S') (hX : Ext (· < n) E0 w0 E' w') (hle : (company Tryz.prog gl).le S0 w0.heap.size S')
    (hv : ∀ D, vc (cxD Tryz.prog tys.find (fun _ _ h => TT.find_all tys_ok h) gl D) fn.ntmps n kc st (LeftU ctx n nx fn.results res Hout)) {Post : Value → World → Prop} {cf : Frame} {cs : List Frame} (hc : ∀ v w' S', GotH Tryz.prog gl n E0 w0 S0 res Hout v w' S' → Ends Tryz.prog Post S' (G (cf.finish v) cs) w') :
    Ends Tryz.prog Post S' (G ((base f).at (up (dcall 150 #[.pointer (some ⟨E'.blk 0, 0, none⟩)]) ⟨tmps, []⟩) [.code kc]) (cf :: cs)) w' := by
  obtain ⟨D, hD⟩ : ∃ D, D = dcall 150 #[.pointer (some ⟨E'.blk 0, 0, none⟩)] := ⟨_, rfl⟩
  rw [← hD]
  have hI0 : Inv (dfs Tryz.prog gl D) fn.ntmps n E' st ⟨tmps, []⟩ w' S' := ⟨hI.t, hI.h, hI.nx, hI.k, hI.ok⟩
  have h1 := vc_ok (C := cxD Tryz.prog tys.find (fun _ _ h => TT.find_all tys_ok h) gl D) ctx_mixed kc _ _ (hv D) f E' _ w' S' hI0
  have leave : ∀ a'' w'' S'' E'' st'' e todo, (e = .normal ∨ e = .ret) → LeftU ctx n nx fn.results res Hout e st'' → Inv (dfs Tryz.prog gl D) fn.ntmps n E'' st'' a'' w'' S'' → Ext (· < n) E' w' E'' w'' → (company Tryz.prog gl).le S' w'.heap.size S'' →
      Ends Tryz.prog Post S'' (G { (base f).at (up D a'') todo with mode := .returning } (cf :: cs)) w'' := fun a'' w'' S'' E'' st'' e todo he hv2 hI2 hx2 hle2 => by
    have hI2 : Inv (company Tryz.prog gl) fn.ntmps n E'' st'' a'' w'' S'' := ⟨hI2.t, hI2.h, hI2.nx, hI2.k, hI2.ok⟩
    have hdf := hI2.t.df
    obtain ⟨tm2, df2⟩ := a''
    have hdf : df2 = [] := hdf
    subst hdf
    obtain ⟨rest, hB, hv3⟩ := hv2.out
    have hF := lkAt_box hI2.h hB
    have hblk : E''.blk 0 = E'.blk 0 := (hx2.nm 0 hn).1
    refine unlockD (ad := ⟨E''.blk 0, 0, none⟩) (ds := []) hF (by rw [hblk]; show [D] = _; rw [hD]) fun w₃ hr => ?_
    obtain ⟨k1, k2⟩ := box0_set hI2.h hB 0
    obtain ⟨hheap, hio⟩ := (company_sound Tryz.prog gl).rel hr
    obtain ⟨j1, j2⟩ := k1.same hheap hio
    have X3 := k2.trans' j2 fun _ h => h
    have hI3 : Inv (company Tryz.prog gl) fn.ntmps n E'' ⟨st''.T, (0, some (.box (.cv (.sc (.int .i32 0)) :: rest))) :: st''.H, st''.nx⟩ ⟨tm2, []⟩ w₃ S'' :=
      ⟨hI2.t.mono X3 (fun _ h => h) hI2.h.prfr, by rw [geth_cons]; exact j1, hI2.nx, hI2.k, (company_sound Tryz.prog gl).okExt hI2.ok X3⟩
    refine Ends.step rfl fun w₄ hr4 => ?_
    obtain ⟨hh4, hio4⟩ := (company_sound Tryz.prog gl).rel hr4
    have hI4 := hI3.same hh4 hio4
    have hv4 : vRes ctx ⟨st''.T, (0, some (.box (.cv (.sc (.int .i32 0)) :: rest))) :: st''.H, st''.nx⟩ fn.results.toList fun r => ∃ l : List (Nat × Nat), renOk n nx l = true ∧ LeA (lk l) res (one r) ∧ AllH (lk l) (geth ((0, some (.box (.cv (.sc (.int .i32 0)) :: rest))) :: st''.H)) Hout := by
      rcases he with rfl | rfl <;> exact hv3
    obtain ⟨v, q1, q2, E2, q3, q4, q5, q6⟩ := left_run (C := ctx) f hI4 hv4
    refine ⟨_, w₄, _, stepG_leaveE (b := base f) rfl rfl hf q1, Nat.le_refl _, q2, hc v w₄ S'' ⟨E2, q3, q4, ?_, q6, ?_⟩⟩
    · have X1 : Ext (· < n) E0 w0 E'' w'' := hX.trans hx2
      have X2 : Ext (· < n) E0 w0 E'' w₃ := X1.trans (X3.weaken fun b hb => hI2.k b hb)
      have X4 : Ext (· < n) E0 w0 E'' w₄ := X2.trans ((ext_same hh4 hio4).weaken fun b hb => hI3.k b hb)
      exact X4.trans q5
    · exact (company Tryz.prog gl).leTrans hle hle2 hX.sz
  rw [← Frame.atR_of_none (show (base f).roundOf = none from rfl)]
  refine h1 Post (base f) [] (cf :: cs) rfl ⟨by simp [base], .inl rfl⟩ fun e a1 w'' S'' ⟨a'', e1, st'', E'', hL, hI2, hx2, hle2⟩ => ?_
  subst e1
  have no : ∀ e, e ≠ .normal → e ≠ .ret → ¬ LeftU ctx n nx fn.results res Hout e st'' := fun e h1 h2 h => by
    obtain ⟨_, _, h⟩ := h.out
    cases e <;> first | exact h1 rfl | exact h2 rfl | exact h
  cases e with
  | normal =>
    show Ends Tryz.prog Post S'' (G ((base f).atR (up D a'') []) (cf :: cs)) w''
    rw [Frame.atR_of_none (show (base f).roundOf = none from rfl)]
    exact quiet rfl (fun _ => stepG_end) (leave a'' w'' S'' E'' st'' _ _ (.inl rfl) hL hI2 hx2 hle2)
  | ret =>
    intro todo
    rw [Frame.atR_of_none (show (base f).roundOf = none from rfl)]
    exact quiet rfl (fun _ => stepG_ret') (leave a'' w'' S'' E'' st'' _ _ (.inr rfl) hL hI2 hx2 hle2)
  | exit id => exact (no _ (by simp) (by simp) hL).elim
  | goto l => exact (no _ (by simp) (by simp) hL).elim
  | panic ch => exact (no _ (by simp) (by simp) hL).elim
  | outgrown => exact (no _ (by simp) (by simp) hL).elim
end Go.Proofs.YtdjoodbidcncaaaGreatDoor.AW
