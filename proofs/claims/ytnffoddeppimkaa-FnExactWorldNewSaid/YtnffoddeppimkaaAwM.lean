/- Contracts of functions: entered, left, called. -/
import Derived.Test.YtnffoddeppimkaaAwL
namespace Go.Proofs.Ytnffoddeppimkaa.AW
open Go

def Bodied (P : Program) (f : FuncId) : Prop := ∃ fn, P.funcs[f]? = some fn ∧ (fn.name == "runtime.NumGoroutine") = false ∧ fn.body.isSome = true
def hin (l : List Block) : Nat → Option Block := fun b => l[b]?

/-- ████ a contract: of arguments (and blocks that they lead to) comes this, and nothing else is written ████ -/
structure Spec (C : Ctx) (f : FuncId) (args : List AV) (Hin : List Block) (res : AV) (Hout : List (Nat × Option Block)) : Prop where
  bod : Bodied C.P f
  run : ∀ (E : Emb) (w : World) (vs : List Value), vs.length = args.length → (∀ (k : Nat) (x : AV), args[k]? = some x → RepA w E x (vs.getD k undef)) → HInv E (hin Hin) w → (∀ b, E.U b ↔ b < Hin.length) →
    Calls C.P f vs.toArray w fun e w' => ∃ v E', e = .returned v ∧ RepA w' E' res v ∧ HInv E' (geth Hout) w' ∧ Ext (· < Hin.length) E w E' w'

def tin : Nat → List AV → List (Nat × AV)
  | _, [] => []
  | i, x :: l => (i, x) :: tin (i + 1) l
def hin2 : Nat → List Block → List (Nat × Option Block)
  | _, [] => []
  | i, B :: l => (i, some B) :: hin2 (i + 1) l
theorem get_tin : ∀ (l : List AV) (i t : Nat), get (tin i l) t = if i ≤ t then (l[t - i]?).getD .any else .any
  | [], i, t => by simp [tin, get]
  | x :: l, i, t => by
    simp only [tin, get]
    split
    · rename_i h
      have := Nat.eq_of_beq_eq_true h
      subst this
      simp
    · rename_i h
      have hne : t ≠ i := fun e => by subst e; rw [Nat.beq_refl] at h; cases h
      rw [get_tin l (i + 1) t]
      by_cases h1 : i + 1 ≤ t
      · rw [if_pos h1, if_pos (by omega), show t - i = (t - (i + 1)) + 1 by omega]; rfl
      · rw [if_neg h1, if_neg (by omega)]
theorem geth_hin2 : ∀ (l : List Block) (i t : Nat), geth (hin2 i l) t = if i ≤ t then l[t - i]? else none
  | [], i, t => by simp [hin2, geth]
  | x :: l, i, t => by
    simp only [hin2, geth]
    split
    · rename_i h
      have := Nat.eq_of_beq_eq_true h
      subst this
      simp
    · rename_i h
      have hne : t ≠ i := fun e => by subst e; rw [Nat.beq_refl] at h; cases h
      rw [geth_hin2 l (i + 1) t]
      by_cases h1 : i + 1 ≤ t
      · rw [if_pos h1, if_pos (by omega), show t - i = (t - (i + 1)) + 1 by omega]; rfl
      · rw [if_neg h1, if_neg (by omega)]

/-- what is read when the function is left -/
def vRes (C : Ctx) (st : St) : List ResultVar → (List AV → Prop) → Prop
  | [], K => K []
  | .tmp t :: l, K => vRes C st l fun r => K (get st.T t :: r)
  | .cell a t :: l, K => vLoad C t (get st.T a) (geth st.H) fun e => vRes C st l fun r => K (e.v :: r)
def one (l : List AV) : AV := match l with
  | [x] => x
  | l => .tup l

section
variable {C : Ctx}
theorem vLoad_run {t : TypeId} {x : AV} {H : Nat → Option Block} {K : Eff → Prop} (h : vLoad C t x H K) : ∃ e, K e ∧ ∀ E w u, HInv E H w → RepA w E x u → ∃ p v, u = .pointer (some p) ∧ (loadVar t p).run C.P w = .ok v w ∧ RepA w E e.v v := by
  let o : Oper := { (default : Oper) with op := .load t (.tmp 0), dst := none }
  have ho : o.op = .load t (.tmp 0) := rfl
  -- the contract of the operation, read at a state whose one slot holds x
  unfold vLoad at h
  split at h
  · rename_i i b st j k hi
    unfold vLoadB at h
    split at h
    · rename_i cs hb
      replace h := ck_out h
      obtain ⟨hj, h⟩ := h
      have hj : j = 0 := by simpa using hj
      split at h
      · rename_i v hm hl
        have hl : ((cs.drop k).take i.sz).length = i.sz := by simpa using hl
        refine ⟨_, h, fun E w u hh hr => ?_⟩
        obtain ⟨_, e⟩ := rep_ptr hr
        obtain ⟨_, cells, p, hs, hle, hc⟩ := hh.hp b _ hb
        have hlen : k + i.sz ≤ cs.length ∨ i.sz = 0 := by simp only [List.length_take, List.length_drop] at hl; omega
        obtain ⟨y, hy, hr⟩ := mkVar_run (C := C) (w := w) (E := E) (C.ok _ _ hi) (p := ⟨E.blk b, j * st + k, none⟩) rfl hm hl (fun q => cells.getD (k + q) undef) (fun q hq => by
            have : k + q < cells.size := by omega
            simp [cellAt, p.cell, hj, Array.getD_eq_getD_getElem?, this]) (fun q y hy => hc _ _ (take_drop_get hy).1)
        exact ⟨_, y, e, hy, hr⟩
      · exact h.elim
    · rename_i st' es hb
      replace h := ck_out h
      obtain ⟨hst, e', he, h⟩ := h
      have hst : st = st' := by simpa using hst
      subst hst
      split at h
      · rename_i v hm hl
        have hl : ((e'.drop k).take i.sz).length = i.sz := by simpa using hl
        refine ⟨_, h, fun E w u hh hr => ?_⟩
        obtain ⟨_, e⟩ := rep_ptr hr
        obtain ⟨_, cells, p, hs, hle, hel, hc⟩ := (hh.hp b _ hb).resolve_left fun g => rep_ptr_g hr g.1
        have hlen : k + i.sz ≤ e'.length ∨ i.sz = 0 := by simp only [List.length_take, List.length_drop] at hl; omega
        have hes : e'.length = st := hel _ (List.mem_of_getElem? he)
        have hjl : j < es.length := (List.getElem?_eq_some_iff.1 he).1
        have hjs : j * st + st ≤ es.length * st := by
          have : (j + 1) * st ≤ es.length * st := Nat.mul_le_mul_right _ hjl
          simpa [Nat.succ_mul] using this
        obtain ⟨y, hy, hr⟩ := mkVar_run (C := C) (w := w) (E := E) (C.ok _ _ hi) (p := ⟨E.blk b, j * st + k, none⟩) rfl hm (by simpa using hl) (fun q => cells.getD (j * st + (k + q)) undef) (fun q hq => by
            have : j * st + k + q < cells.size := by omega
            simp [cellAt, p.cell, Array.getD_eq_getD_getElem?, this, ← Nat.add_assoc]) (fun q y hy => by
            simp only [List.getElem?_map, Option.map_eq_some_iff] at hy
            obtain ⟨c, hcq, rfl⟩ := hy
            exact .cv _ _ (hc j e' (k + q) c he (take_drop_get hcq).1))
        exact ⟨_, y, e, hy, hr⟩
      · exact h.elim
    · exact h.elim
  · rename_i i cs hi
    split at h
    · rename_i v hm hl
      have hl : (cs.take i.sz).length = i.sz := by simpa using hl
      refine ⟨_, h, fun E w u hh hr => ?_⟩
      obtain ⟨p, vs, e, hsp, hpr, hc, hr⟩ := rep_rp hr
      have hlen : i.sz ≤ cs.length := by simp only [List.length_take] at hl; omega
      obtain ⟨y, hy, hr⟩ := mkVar_run (C := C) (w := w) (E := E) (C.ok _ _ hi) hsp hm (by simpa using hl) vs (fun q hq => hc q cs[q] (by simp)) (fun q y hy => by
          simp only [List.getElem?_map, Option.map_eq_some_iff] at hy
          obtain ⟨c, hcq, rfl⟩ := hy
          rw [List.getElem?_take] at hcq
          split at hcq
          · exact .cv _ _ (hr q c hcq)
          · cases hcq)
      exact ⟨_, y, e, hy, hr⟩
    · exact h.elim
  · exact h.elim

def resF (tmps : Array Value) : ResultVar → Sem Value
  | .tmp t => pure (tmps.getD t undef)
  | .cell a t => do loadVar t (← asAddr (tmps.getD a undef))
theorem results_eq (fn : Func) (tmps : Array Value) : results fn tmps = (do let vs ← fn.results.mapM (resF tmps); pure (if h : vs.size = 1 then vs[0] else .tuple vs)) := by
  unfold results
  congr 1
theorem vRes_run {st : St} : ∀ {l : List ResultVar} {K : List AV → Prop}, vRes C st l K → ∃ r, K r ∧ ∀ N E a w, TInv N E (get st.T) a w → HInv E (geth st.H) w →
    ∃ vs : List Value, (l.mapM (resF a.tmps)).run C.P w = .ok vs w ∧ vs.length = r.length ∧ ∀ (k : Nat) (y : AV), r[k]? = some y → RepA w E y (vs.getD k undef)
  | [], K, h => ⟨[], h, fun _ E a w _ _ => ⟨[], rfl, rfl, by simp⟩⟩
  | .tmp t :: l, K, h => by
    obtain ⟨r, h1, h2⟩ := vRes_run (l := l) h
    refine ⟨_, h1, fun N E a w ht hh => ?_⟩
    obtain ⟨vs, e1, e2, e3⟩ := h2 N E a w ht hh
    refine ⟨a.tmps.getD t undef :: vs, ?_, by simp [e2], fun k y hy => ?_⟩
    · have h0 : (resF a.tmps (.tmp t)).run C.P w = .ok (a.tmps.getD t undef) w := rfl
      rw [List.mapM_cons, Sem.run_bind, h0]
      simp only [Result.andThen_ok]
      rw [Sem.run_bind, e1]; rfl
    · cases k with
      | zero => simp only [List.getElem?_cons_zero, Option.some.injEq] at hy; subst hy; exact ht.tm t
      | succ k => exact e3 k y (by simpa using hy)
  | .cell x t :: l, K, h => by
    simp only [vRes] at h
    obtain ⟨e, he, hload⟩ := vLoad_run h
    obtain ⟨r, h1, h2⟩ := vRes_run (l := l) he
    refine ⟨_, h1, fun N E a w ht hh => ?_⟩
    obtain ⟨vs, e1, e2, e3⟩ := h2 N E a w ht hh
    obtain ⟨p, v, q1, q2, q3⟩ := hload E w _ hh (ht.tm x)
    refine ⟨v :: vs, ?_, by simp [e2], fun k y hy => ?_⟩
    · have h0 : (resF a.tmps (.cell x t)).run C.P w = .ok v w := by
        simp only [resF, q1, asAddr, Sem.run_bind, Sem.run_pure, Result.andThen_ok, q2]
      rw [List.mapM_cons, Sem.run_bind, h0]
      simp only [Result.andThen_ok]
      rw [Sem.run_bind, e1]; rfl
    · cases k with
      | zero => simp only [List.getElem?_cons_zero, Option.some.injEq] at hy; subst hy; exact q3
      | succ k => exact e3 k y (by simpa using hy)

/-- what must hold when the function is left -/
def Left (C : Ctx) (k nx : Nat) (rs : Array ResultVar) (res : AV) (Hout : List (Nat × Option Block)) (e : Exit) (st : St) : Prop := match e with
  | .normal | .ret => vRes C st rs.toList fun r => ∃ l : List (Nat × Nat), renOk k nx l = true ∧ LeA (lk l) res (one r) ∧ AllH (lk l) (geth st.H) Hout
  | _ => False
/-- how a contract is proved -/
theorem spec_mk (hm : C.P.follows .mixedOrders = true) {f : FuncId} {fn : Func} {c : Code} {args : List AV} {Hin : List Block} {res : AV} {Hout : List (Nat × Option Block)} (nx : Nat) (hf : C.P.funcs[f]? = some fn) (hn : (fn.name == "runtime.NumGoroutine") = false) (hb : fn.body = some c)
    (hl : args.length ≤ fn.ntmps) (k : Nat) (hk : Hin.length = k) (h : vc C fn.ntmps k c ⟨tin 0 args, hin2 0 Hin, k⟩ (Left C k nx fn.results res Hout)) : Spec C f args Hin res Hout := by
  subst hk
  refine ⟨⟨fn, hf, hn, by rw [hb]; rfl⟩, fun E w vs hvl hvs hh hU => calls_of_wp hf hb ?_⟩
  have hI : Inv fn.ntmps Hin.length E ⟨tin 0 args, hin2 0 Hin, Hin.length⟩ { tmps := vs.toArray ++ Array.replicate (fn.ntmps - vs.toArray.size) undef, defers := [] } w := by
    refine ⟨⟨fun t => ?_, by simp; omega, rfl⟩, ?_, fun b hb => (hU b).1 hb, fun b hb => (hU b).2 hb⟩
    · simp only [get_tin, Nat.zero_le, if_true, Nat.sub_zero]
      cases ha : args[t]? with
      | none => exact .any _
      | some x =>
        have := hvs t x ha
        have hlt : t < vs.length := by rw [hvl]; exact (List.getElem?_eq_some_iff.1 ha).1
        have e : (vs.toArray ++ Array.replicate (fn.ntmps - vs.toArray.size) undef).getD t undef = vs.getD t undef := by
          simp only [Array.getD_eq_getD_getElem?]
          rw [Array.getElem?_append_left (by simpa using hlt)]
          simp [List.getD]
        rw [e]; exact this
    · have : geth (hin2 0 Hin) = hin Hin := by funext b; rw [geth_hin2]; simp [hin]
      simp only [this]; exact hh
  refine wp_mono (vc_ok hm c _ _ h E _ w hI) fun e a' w' ⟨st', E', h1, h2, h3⟩ => ?_
  have fin : (vRes C st' fn.results.toList fun r => ∃ l : List (Nat × Nat), renOk Hin.length nx l = true ∧ LeA (lk l) res (one r) ∧ AllH (lk l) (geth st'.H) Hout) → a'.defers = [] ∧ ∃ v, (results fn a'.tmps).run C.P w' = .ok v w' ∧
      ∃ v' E', Ending.returned v = .returned v' ∧ RepA w' E' res v' ∧ HInv E' (geth Hout) w' ∧ Ext (· < Hin.length) E w E' w' := fun hv => by
    obtain ⟨r, ⟨l, q1, q2, q3⟩, hr⟩ := vRes_run hv
    obtain ⟨ws, e1, e2, e3⟩ := hr _ E' a' w' h2.t h2.h
    obtain ⟨g1, g2⟩ := ren_heap q1 h2.h h2.k q3
    have hone : RepA w' E' (one r) (if h : ws.toArray.size = 1 then ws.toArray[0] else .tuple ws.toArray) := by
      unfold one
      split
      · rename_i x
        have hws : ws.length = 1 := e2
        rw [dif_pos (by simpa using hws)]
        have := e3 0 x rfl
        have h0 : 0 < ws.length := by omega
        simpa [List.getD, h0] using this
      · rename_i hne
        have hws : ¬ ws.toArray.size = 1 := fun h => by
          have : r.length = 1 := by rw [← e2]; simpa using h
          obtain ⟨x, hx⟩ := List.length_eq_one_iff.1 this
          exact hne x hx
        rw [dif_neg hws]
        exact .tup _ _ (by simpa using e2) fun k y hy => by
          have := e3 k y hy
          simpa [List.getD, Array.getD_eq_getD_getElem?] using this
    refine ⟨h2.t.df, _, ?_, _, _, rfl, LeA.rep q2 hone, g1, h3.trans g2⟩
    rw [results_eq, Array.mapM_eq_mapM_toList, Sem.run_bind, Sem.run_map, e1]
    rfl
  cases e with
  | normal => exact fin h1
  | ret => exact fin h1
  | _ => exact h1.elim
end
end Go.Proofs.Ytnffoddeppimkaa.AW
