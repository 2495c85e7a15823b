/- Code as a condition on an abstract state. -/
import Derived.Test.YtnffoddeppimkaaAwJ
namespace Go.Proofs.Ytnffoddeppimkaa.AW
open Go

def stF (op : Nat → Oper) (tab : Nat → Ent) (st : St) : Nat → St
  | 0 => st
  | i + 1 => (stF op tab st i).app (op i).dst (tab i).e
section
variable {C : Ctx} {N : Nat} {ops : Array Oper}

theorem stF_T (op : Nat → Oper) (tab : Nat → Ent) (st : St) : ∀ i, get (stF op tab st i).T = Tf op tab (fun _ => true) (get st.T) i
  | 0 => rfl
  | i + 1 => by simp only [stF, Tf, if_true]; rw [get_app, stF_T op tab st i]
theorem stF_H (op : Nat → Oper) (tab : Nat → Ent) (st : St) : ∀ i, geth (stF op tab st i).H = Hf tab (fun _ => true) (geth st.H) i
  | 0 => rfl
  | i + 1 => by simp only [stF, Hf, if_true]; rw [geth_app, stF_H op tab st i]
theorem stF_nx (op : Nat → Oper) (tab : Nat → Ent) (st : St) (i : Nat) : ∀ d, (stF op tab st i).nx ≤ (stF op tab st (i + d)).nx
  | 0 => Nat.le_refl _
  | d + 1 => Nat.le_trans (stF_nx op tab st i d) (by show _ ≤ (stF op tab st (i + d + 1)).nx; simp only [stF, St.app]; omega)

theorem runs_at {todo : List Oper} {tab : List Ent} {st st' : St} (h : Runs C N ops todo tab st st') (op : Nat → Oper) (tb : Nat → Ent) (ho : ∀ i o, todo[i]? = some o → op i = o) (ht : ∀ i t, tab[i]? = some t → tb i = t) : ∀ i, i ≤ todo.length → Runs C N ops (todo.drop i) (tab.drop i) (stF op tb st i) st' := by
  intro i
  induction i with
  | zero => intro _; simpa [stF] using h
  | succ i ih =>
    intro hi
    have h1 := ih (by omega)
    cases hd : todo.drop i with
    | nil => have := congrArg List.length hd; simp at this; omega
    | cons o l =>
      rw [hd] at h1
      cases ht' : tab.drop i with
      | nil => rw [ht'] at h1; exact h1.elim
      | cons t tl =>
        rw [ht'] at h1
        have e1 : todo[i]? = some o := by have := congrArg (·[0]?) hd; simpa using this
        have e2 : tab[i]? = some t := by have := congrArg (·[0]?) ht'; simpa using this
        have d1 : todo.drop (i + 1) = l := by rw [← List.drop_drop, hd]; rfl
        have d2 : tab.drop (i + 1) = tl := by rw [← List.drop_drop, ht']; rfl
        rw [d1, d2]
        simp only [stF]
        rw [ho i o e1, ht i t e2]
        exact h1.2
theorem runs_ent {todo : List Oper} {tab : List Ent} {st st' : St} (h : Runs C N ops todo tab st st') (op : Nat → Oper) (tb : Nat → Ent) (ho : ∀ i o, todo[i]? = some o → op i = o) (ht : ∀ i t, tab[i]? = some t → tb i = t) (i : Nat) (hi : i < todo.length) :
    EntOk C N ops (op i) (tb i) (stF op tb st i) := by
  have h1 := runs_at h op tb ho ht i (by omega)
  cases hd : todo.drop i with
  | nil => have := congrArg List.length hd; simp at this; omega
  | cons o l =>
    rw [hd] at h1
    cases ht' : tab.drop i with
    | nil => rw [ht'] at h1; exact h1.elim
    | cons t tl =>
      rw [ht'] at h1
      have e1 : todo[i]? = some o := by have := congrArg (·[0]?) hd; simpa using this
      have e2 : tab[i]? = some t := by have := congrArg (·[0]?) ht'; simpa using this
      rw [ho i o e1, ht i t e2]
      exact h1.1
theorem runs_end {todo : List Oper} {tab : List Ent} {st st' : St} (h : Runs C N ops todo tab st st') (op : Nat → Oper) (tb : Nat → Ent) (ho : ∀ i o, todo[i]? = some o → op i = o) (ht : ∀ i t, tab[i]? = some t → tb i = t) (hl : tab.length = todo.length) : stF op tb st todo.length = st' := by
  have h1 := runs_at h op tb ho ht todo.length (Nat.le_refl _)
  simp only [List.drop_length] at h1
  rw [← hl, List.drop_length] at h1
  rw [← hl]; exact h1
end

structure Inv (N k : Nat) (E : Emb) (st : St) (a : Act) (w : World) : Prop where
  t : TInv N E (get st.T) a w
  h : HInv E (geth st.H) w
  nx : ∀ b, E.U b → b < st.nx
  k : ∀ b, b < k → E.U b

def AWp (C : Ctx) (N k : Nat) (c : Code) (st : St) (Q : Exit → St → Prop) : Prop :=
  ∀ E a w, Inv N k E st a w → c.wp C.P (fun e a' w' => ∃ st' E', Q e st' ∧ Inv N k E' st' a' w' ∧ Ext (· < k) E w E' w') a w
@[irreducible] def AW (C : Ctx) (N k : Nat) (c : Code) (st : St) (Q : Exit → St → Prop) : Prop := AWp C N k c st Q
theorem AW.mk {C : Ctx} {N k : Nat} {c : Code} {st : St} {Q : Exit → St → Prop} (h : AWp C N k c st Q) : AW C N k c st Q := by unfold AW; exact h
theorem AW.out {C : Ctx} {N k : Nat} {c : Code} {st : St} {Q : Exit → St → Prop} (h : AW C N k c st Q) : AWp C N k c st Q := by unfold AW at h; exact h

section
variable {C : Ctx} {N k : Nat}

theorem opAt_of {ops : Array Oper} {i : Nat} {o : Oper} (h : ops.toList[i]? = some o) : opAt ops i = o := by
  have : ops[i]? = some o := by simpa using h
  simp [opAt, Array.getD_eq_getD_getElem?, this]
theorem opAt_some {ops : Array Oper} {i : Nat} (h : i < ops.size) : ops[i]? = some (opAt ops i) := by simp [opAt, Array.getD_eq_getD_getElem?, h]

/-- one operation in its place -/
theorem ent_step {ops : Array Oper} {tb : Nat → Ent} {st : St} {i : Nat} (hi : i < ops.size) (he : EntOk C N ops (opAt ops i) (tb i) (stF (opAt ops) tb st i)) (hd : dstOk N ops = true) {E : Emb} {a : Act} {w : World} {K : Act → World → Prop} {Q : Exit → Act → World → Prop}
    (ht : TInv N E (get (stF (opAt ops) tb st i).T) a w) (hh : HInv E (geth (stF (opAt ops) tb st i).H) w) (hnx : ∀ b, E.U b → b < (stF (opAt ops) tb st i).nx)
    (hg : ∀ j want, (opAt ops i).guard = some (j, want) → j < ops.size)
    (next : ∀ E' a' w', TInv N E' (get (stF (opAt ops) tb st (i + 1)).T) a' w' → HInv E' (geth (stF (opAt ops) tb st (i + 1)).H) w' → (∀ b, E'.U b → b < (stF (opAt ops) tb st (i + 1)).nx) → Ext E.U E w E' w' → (∀ b, E.U b → E'.U b) → K a' w') : wpOp C.P ops Q i K a w := by
  have dst : ∀ j, j < ops.size → ∀ x, (opAt ops j).dst = some x → x < N := fun j hj x hx => by
    have := List.all_eq_true.1 hd (opAt ops j) (by rw [Array.mem_toList_iff]; exact Array.mem_of_getElem? (opAt_some hj))
    simpa [hx] using this
  unfold wpOp
  rw [opAt_some hi]
  simp only
  have wanted : Region.wanted (opAt ops i) (yielded ops a.tmps) = (tb i).on := by
    have g := he.guard
    unfold Region.wanted
    cases hgu : (opAt ops i).guard with
    | none => rw [hgu] at g; exact g.symm
    | some jw =>
      obtain ⟨j, want⟩ := jw
      rw [hgu] at g
      obtain ⟨d, r, h1, h2, h3⟩ := g
      have hj := hg j want hgu
      have hr := yv_rep (ht.tm d) h2
      have hlt : d < a.tmps.size := by rw [ht.sz]; exact dst j hj d h1
      simp only
      rw [h3]
      congr 1
      unfold yielded
      rw [opAt_some hj]
      simp only [Option.bind_some, h1, Array.getElem?_eq_getElem hlt]
      have hv : a.tmps.getD d undef = a.tmps[d] := by rw [Array.getD_eq_getD_getElem?, Array.getElem?_eq_getElem hlt]; rfl
      rw [hv] at hr
      rw [← hr]
      cases a.tmps[d] <;> rfl
  rw [wanted]
  cases hon : (tb i).on with
  | false =>
    simp only [Bool.false_eq_true, if_false]
    have ho := he.off hon
    refine next E _ w ?_ ?_ (fun b hb => Nat.lt_of_lt_of_le (hnx b hb) (by simp only [stF, St.app]; omega)) (Ext.refl _ _ _) (fun _ h => h)
    · simp only [stF]; rw [get_app, ho]; exact ht.put _ (dst i hi) (.tup [] #[] rfl (by simp))
    · simp only [stF]; rw [geth_app, ho]; exact hh
  | true =>
    simp only [if_true]
    obtain ⟨h1, h2⟩ := he.on hon
    refine .inl (h1 _ _ (fun _ _ => rfl) (fun _ _ => rfl) E a w K Q ht hh (fun b hb hU => ?_) fun u E' w' hr hhi hx hu => ?_)
    · rw [h2] at hb
      have := (List.mem_range'.1 hb)
      obtain ⟨m, _, rfl⟩ := this
      have := hnx _ hU
      omega
    · have hu' : ∀ b, E.U b → E'.U b := fun b hb => (hu b).2 (.inl hb)
      refine next E' _ w' ?_ ?_ (fun b hb => ?_) hx hu'
      · simp only [stF]; rw [get_app]; exact (ht.mono hx hu' hh.prfr).put _ (dst i hi) hr
      · simp only [stF]; rw [geth_app]; exact hhi
      · simp only [stF, St.app]
        rcases (hu b).1 hb with g | g
        · have := hnx b g; omega
        · rw [h2] at g
          obtain ⟨m, hm, rfl⟩ := List.mem_range'.1 g
          omega

/-- a region whose order is the text's -/
theorem seq_region {ops : Array Oper} {tb : Nat → Ent} {st : St} (he : ∀ i, i < ops.size → EntOk C N ops (opAt ops i) (tb i) (stF (opAt ops) tb st i)) (hd : dstOk N ops = true) (hg : ∀ i j want, i < ops.size → (opAt ops i).guard = some (j, want) → j < ops.size) {E₀ : Emb} {w₀ : World} {Q : Exit → Act → World → Prop}
    (fin : ∀ E a w, TInv N E (get (stF (opAt ops) tb st ops.size).T) a w → HInv E (geth (stF (opAt ops) tb st ops.size).H) w → (∀ b, E.U b → b < (stF (opAt ops) tb st ops.size).nx) → Ext E₀.U E₀ w₀ E w → (∀ b, E₀.U b → E.U b) → Q .normal a w) :
    ∀ (d i : Nat), i + d = ops.size → ∀ E a w, TInv N E (get (stF (opAt ops) tb st i).T) a w → HInv E (geth (stF (opAt ops) tb st i).H) w → (∀ b, E.U b → b < (stF (opAt ops) tb st i).nx) → Ext E₀.U E₀ w₀ E w → (∀ b, E₀.U b → E.U b) → wpOps C.P ops Q (List.range' i d) a w := by
  intro d
  induction d with
  | zero =>
    intro i hi E a w h1 h2 h3 h4 h5
    have : i = ops.size := by omega
    subst this
    simp only [List.range'_zero, wpOps]
    exact fin E a w h1 h2 h3 h4 h5
  | succ d ih =>
    intro i hi E a w h1 h2 h3 h4 h5
    rw [List.range'_succ, wpOps_cons]
    refine ent_step (by omega) (he i (by omega)) hd h1 h2 h3 (fun j want => hg i j want (by omega)) fun E' a' w' g1 g2 g3 g4 g5 => ?_
    refine ih (i + 1) (by omega) E' a' w' g1 g2 g3 (h4.trans' g4 h5) fun b hb => g5 b (h5 b hb)

theorem apart_of {ops : Array Oper} {o o' : Oper} {e e' : Eff} (h : apB ops o o' (FP.of e) (FP.of e') = true) : Apart ops o o' e e' := by
  simp only [apB, Bool.and_eq_true, List.all_eq_true, FP.of, Bool.not_eq_true', List.contains_eq_mem, decide_eq_false_iff_not] at h
  obtain ⟨h1, h2, h3⟩ := h
  obtain ⟨a1, a2, a3⟩ := Oper.apart_spec h1
  refine ⟨a1, a3, fun d hd => a2 d hd, fun p hp => (h2 p.1 (List.mem_map.2 ⟨p, hp, rfl⟩)).1, fun p hp => h3 p.1 (List.mem_map.2 ⟨p, hp, rfl⟩), fun p hp q hq e => (h2 p.1 (List.mem_map.2 ⟨p, hp, rfl⟩)).2 (e ▸ List.mem_map.2 ⟨q, hq, rfl⟩)⟩

theorem aw_region (hm : C.P.follows .mixedOrders = true) {id : Nat} {ops : Array Oper} {draw : Bool} {st : St} {Q : Exit → St → Prop} (h : rg C N draw ops ops.toList [] st fun st' => Q .normal st') : AWp C N k (.region id ops draw) st Q := by
  intro E a w hI
  obtain ⟨tab, st', hl, hr, hc, hq⟩ := rg_out h
  simp only [List.reverse_nil, List.nil_append, chk, Bool.and_eq_true, Bool.or_eq_true, Bool.not_eq_true'] at hc
  obtain ⟨⟨hd, hgs⟩, hc⟩ := hc
  let tb : Nat → Ent := fun i => tab.getD i offEnt
  have htb : ∀ i t, tab[i]? = some t → tb i = t := fun i t ht => by simp [tb, List.getD, ht]
  have hop : ∀ i o, ops.toList[i]? = some o → opAt ops i = o := fun i o ho => opAt_of ho
  have ent : ∀ i, i < ops.size → EntOk C N ops (opAt ops i) (tb i) (stF (opAt ops) tb st i) := fun i hi => runs_ent hr _ _ hop htb i (by simpa using hi)
  have fin : stF (opAt ops) tb st ops.size = st' := by
    have := runs_end hr _ _ hop htb hl
    simpa using this
  have gsz : ∀ i j want, i < ops.size → (opAt ops i).guard = some (j, want) → j < ops.size := fun i j want hi hg => by
    have := List.all_eq_true.1 hgs (opAt ops i) (by rw [Array.mem_toList_iff]; exact Array.mem_of_getElem? (opAt_some hi))
    simpa [hg] using this
  have done : ∀ E' a' w', TInv N E' (get st'.T) a' w' → HInv E' (geth st'.H) w' → (∀ b, E'.U b → b < st'.nx) → Ext E.U E w E' w' → (∀ b, E.U b → E'.U b) → ∃ st' E'', Q .normal st' ∧ Inv N k E'' st' a' w' ∧ Ext (· < k) E w E'' w' := fun E' a' w' h1 h2 h3 h4 h5 =>
    ⟨st', E', hq, ⟨h1, h2, h3, fun b hb => h5 b (hI.k b hb)⟩, h4.weaken fun b hb => hI.k b hb⟩
  cases draw with
  | false =>
    refine wp_region ?_
    rw [List.range_eq_range']
    exact seq_region ent hd gsz (fun E' a' w' h1 h2 h3 h4 h5 => done E' a' w' (fin ▸ h1) (fin ▸ h2) (fin ▸ h3) h4 h5) ops.size 0 (by omega) E a w hI.t hI.h hI.nx (Ext.refl _ _ _) fun _ h => h
  | true =>
    obtain ⟨⟨he, hgo⟩, hp⟩ := hc.resolve_left (by simp)
    have guards : ∀ i, i < ops.size → ∀ j want, (opAt ops i).guard = some (j, want) → j < i ∧ bef ops j i = true := fun i hi j want hg => by
      have := List.all_eq_true.1 hgo i (List.mem_range.2 hi)
      simpa [hg] using this
    have fp : ∀ i, i < ops.size → (tab.map fun t => FP.of t.e).getD i ⟨[], []⟩ = FP.of (tb i).e := fun i hi => by
      have hi' : i < tab.length := by rw [hl]; simpa using hi
      simp [tb, List.getD, hi']
    have T : Tab C.P ops N (get st.T) (geth st.H) st.nx (opAt ops) tb (bef ops) := by
      refine ⟨fun i hi => opAt_some hi, fun i hi x hx => ?_, fun i hi => ?_, fun i hi hon => ?_, fun i hi => (ent i hi).off, fun i hi b hb => ?_, fun i hi j hj => ?_⟩
      · have := List.all_eq_true.1 hd (opAt ops i) (by rw [Array.mem_toList_iff]; exact Array.mem_of_getElem? (opAt_some hi))
        simpa [hx] using this
      · have g := (ent i hi).guard
        cases hgu : (opAt ops i).guard with
        | none => rw [hgu] at g; exact g
        | some jw =>
          obtain ⟨j, want⟩ := jw
          rw [hgu] at g
          obtain ⟨d, r, h1, h2, h3⟩ := g
          obtain ⟨g1, g2⟩ := guards i hi j want hgu
          exact ⟨g1, g2, d, r, h1, by rw [← stF_T]; exact h2, h3⟩
      · have := ((ent i hi).on hon).1
        rwa [stF_T, stF_H] at this
      · cases hon : (tb i).on with
        | false => rw [(ent i hi).off hon] at hb; simp [offEnt] at hb
        | true =>
          have hnw := ((ent i hi).on hon).2
          rw [hnw] at hb
          obtain ⟨m, hm', rfl⟩ := List.mem_range'.1 hb
          have := stF_nx (opAt ops) tb st 0 i
          simp only [Nat.zero_add, stF] at this
          refine ⟨by omega, fun j hj hbj => ?_⟩
          cases honj : (tb j).on with
          | false => rw [(ent j (by omega)).off honj] at hbj; simp [offEnt] at hbj
          | true =>
            have hnwj := ((ent j (by omega)).on honj).2
            rw [hnwj] at hbj
            obtain ⟨m', hm'', e⟩ := List.mem_range'.1 hbj
            have h1 := stF_nx (opAt ops) tb st (j + 1) (i - (j + 1))
            rw [show j + 1 + (i - (j + 1)) = i by omega] at h1
            simp only [stF, St.app] at h1
            omega
      · have := List.all_eq_true.1 hp i (List.mem_range.2 hi)
        have := List.all_eq_true.1 this j (List.mem_range.2 hj)
        simp only [Bool.or_eq_true] at this
        refine this.imp (fun h => h) fun h => ?_
        rw [fp j (by omega), fp i hi] at h
        exact apart_of h
    refine wp_region_any hm ?_
    have hI' : TInv N E (get st.T) a { w with drawn := w.drawn + 1 } ∧ HInv E (geth st.H) { w with drawn := w.drawn + 1 } ∧ Ext E.U E w E { w with drawn := w.drawn + 1 } := by
      obtain ⟨g1, g2⟩ := hI.h.same (w' := { w with drawn := w.drawn + 1 }) rfl ⟨rfl, rfl, rfl⟩
      exact ⟨hI.t.mono g2 (fun _ h => h) hI.h.prfr, g1, g2⟩
    have e0 : ∀ m T0, Tf (opAt ops) tb (fun i => decide (ops.size ≤ i)) T0 m = (if m ≤ ops.size then T0 else Tf (opAt ops) tb (fun i => decide (ops.size ≤ i)) T0 m) := fun m T0 => by
      split
      · rename_i hle
        induction m with
        | zero => rfl
        | succ m ih => simp only [Tf]; rw [if_neg (by simp; omega)]; exact ih (by omega)
      · rfl
    have e1 : ∀ m H0, Hf tb (fun i => decide (ops.size ≤ i)) H0 m = (if m ≤ ops.size then H0 else Hf tb (fun i => decide (ops.size ≤ i)) H0 m) := fun m H0 => by
      split
      · rename_i hle
        induction m with
        | zero => rfl
        | succ m ih => simp only [Hf]; rw [if_neg (by simp; omega)]; exact ih (by omega)
      · rfl
    refine T.any (before_ok ops he) (E₀ := E) (w₀ := w) (fun E' a' w' h1 h2 h3 h4 h5 => ?_) ops.size (Array.replicate ops.size false) (fun i => decide (ops.size ≤ i)) E a _ (by simp) (by simp) (fun i hi => by simp [Array.getD_eq_getD_getElem?, hi]) (fun i hi => by simpa using hi) (fun k hk hs => by simp at hs; omega)
      (by rw [e0, if_pos (Nat.le_refl _)]; exact hI'.1) (by rw [e1, if_pos (Nat.le_refl _)]; exact hI'.2.1) hI'.2.2 (fun _ h => h) (fun b hb => .inl (hI.nx b hb))
    refine done E' a' w' ?_ ?_ (fun b hb => ?_) h3 h4
    · rw [← fin, stF_T]; exact h1
    · rw [← fin, stF_H]; exact h2
    · rw [← fin]
      rcases h5 b hb with g | ⟨j, hj, g⟩
      · have := stF_nx (opAt ops) tb st 0 ops.size
        simp only [Nat.zero_add, stF] at this
        omega
      · cases hon : (tb j).on with
        | false => rw [(ent j hj).off hon] at g; simp [offEnt] at g
        | true =>
          have hnw := ((ent j hj).on hon).2
          rw [hnw] at g
          obtain ⟨m, hm', rfl⟩ := List.mem_range'.1 g
          have h1 := stF_nx (opAt ops) tb st (j + 1) (ops.size - (j + 1))
          rw [show j + 1 + (ops.size - (j + 1)) = ops.size by omega] at h1
          simp only [stF, St.app] at h1
          omega

/-! code -/
def vc (C : Ctx) (N k : Nat) : Code → St → (Exit → St → Prop) → Prop
  | .skip, st, Q => Q .normal st
  | .label _, st, Q => Q .normal st
  | .seq a b, st, Q => vc C N k a st fun e st' => match e with
    | .normal => vc C N k b st' Q
    | e => Q e st'
  | .cond c a b, st, Q => match ev (get st.T) c with
    | .cv (.sc (.bool q)) => Br q (vc C N k a st Q) (vc C N k b st Q)
    | _ => False
  | .block id c, st, Q => vc C N k c st fun e st' => match e with
    | .exit id' => match Nat.beq id' id with
      | true => Q .normal st'
      | false => Q (.exit id') st'
    | e => Q e st'
  | .exit id, st, Q => Q (.exit id) st
  | .ret, st, Q => Q .ret st
  | .region _ ops draw, st, Q => rg C N draw ops ops.toList [] st fun st' => Q .normal st'
  | c, st, Q => AW C N k c st Q

theorem AWp.mono {c : Code} {st : St} {Q Q' : Exit → St → Prop} (h : AWp C N k c st Q) (hq : ∀ e st, Q e st → Q' e st) : AWp C N k c st Q' := fun E a w hI => wp_mono (h E a w hI) fun e a w ⟨st', E', h1, h2, h3⟩ => ⟨st', E', hq _ _ h1, h2, h3⟩

theorem vc_ok (hm : C.P.follows .mixedOrders = true) : ∀ (c : Code) (st : St) (Q : Exit → St → Prop), vc C N k c st Q → AWp C N k c st Q
  | .skip, st, Q, h => fun E a w hI => wp_skip ⟨st, E, h, hI, Ext.refl _ _ _⟩
  | .label _, st, Q, h => fun E a w hI => wp_label ⟨st, E, h, hI, Ext.refl _ _ _⟩
  | .seq x y, st, Q, h => fun E a w hI => by
    refine wp_seq (wp_mono (vc_ok hm x st _ h E a w hI) fun e a' w' ⟨st', E', h1, h2, h3⟩ => ?_)
    cases e with
    | normal => exact wp_mono (vc_ok hm y st' Q h1 E' a' w' h2) fun e a w ⟨st'', E'', g1, g2, g3⟩ => ⟨st'', E'', g1, g2, h3.trans g3⟩
    | _ => exact ⟨st', E', h1, h2, h3⟩
  | .cond c x y, st, Q, h => fun E a w hI => by
    simp only [vc] at h
    split at h
    · rename_i q hq
      have hr := rep_ev hI.t c
      rw [hq] at hr
      have he := rep_sc hr
      refine wp_cond he ?_
      cases q with
      | true => exact vc_ok hm x st Q (h.1 rfl) E a w hI
      | false => exact vc_ok hm y st Q (h.2 rfl) E a w hI
    · exact h.elim
  | .block id c, st, Q, h => fun E a w hI => by
    refine wp_block (wp_mono (vc_ok hm c st _ h E a w hI) fun e a' w' ⟨st', E', h1, h2, h3⟩ => ?_)
    cases e with
    | exit id' =>
      simp only [Exit.inBlock] at h1 ⊢
      by_cases e : id' = id
      · subst e
        rw [if_pos rfl]
        have : Nat.beq id' id' = true := Nat.beq_refl id'
        rw [this] at h1
        exact ⟨st', E', h1, h2, h3⟩
      · rw [if_neg e]
        have : Nat.beq id' id = false := by cases hb : Nat.beq id' id with
          | true => exact absurd (Nat.eq_of_beq_eq_true hb) e
          | false => rfl
        rw [this] at h1
        exact ⟨st', E', h1, h2, h3⟩
    | _ => exact ⟨st', E', h1, h2, h3⟩
  | .exit id, st, Q, h => fun E a w hI => wp_exit ⟨st, E, h, hI, Ext.refl _ _ _⟩
  | .ret, st, Q, h => fun E a w hI => wp_ret ⟨st, E, h, hI, Ext.refl _ _ _⟩
  | .region id ops draw, st, Q, h => by
    simp only [vc] at h
    exact aw_region hm h
  | .loop c, st, Q, h => by simp only [vc] at h; exact h.out
  | .rangeFunc .., st, Q, h => by simp only [vc] at h; exact h.out
  | .scope _, st, Q, h => by simp only [vc] at h; exact h.out
  | .goto _, st, Q, h => by simp only [vc] at h; exact h.out
  | .refuse _, st, Q, h => by simp only [vc] at h; exact h.out
end
end Go.Proofs.Ytnffoddeppimkaa.AW
