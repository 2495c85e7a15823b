/- Contracts of functions: entered, left, called. -/
import Derived.Test.YtdjoodbidcncaaaGreatDoorMAxI
import Derived.Test.YtdjoodbidcncaaaGreatDoorProg
set_option linter.unusedVariables false
set_option linter.unusedSimpArgs false
namespace Go.Proofs.YtdjoodbidcncaaaGreatDoor.AW
open Go

def Bodied (P : Program) (f : FuncId) : Prop := ∃ fn, P.funcs[f]? = some fn ∧ (fn.name == "runtime.NumGoroutine") = false ∧ fn.body.isSome = true
def hin (l : List Block) : Nat → Option Block := fun b => l[b]?

/-- ████ a contract: of arguments (and blocks that they lead to) comes this, and nothing else is written ████ -/
structure Spec (C : Ctx) (f : FuncId) (args : List AV) (Hin : List Block) (res : AV) (Hout : List (Nat × Option Block)) : Prop where
  bod : Bodied C.P f
  run : ∀ (E : Emb) (w : World) (x : C.M.X) (vs : List Value), vs.length = args.length → (∀ (k : Nat) (x : AV), args[k]? = some x → RepA w E x (vs.getD k undef)) → HInv E (hin Hin) w → (∀ b, E.U b ↔ b < Hin.length) → C.M.ok x E w →
    C.M.Calls f vs.toArray w x fun v w' x' => ∃ E', RepA w' E' res v ∧ HInv E' (geth Hout) w' ∧ Ext (· < Hin.length) E w E' w' ∧ C.M.ok x' E' w' ∧ C.M.le x w.heap.size x'

def tin : Nat → List AV → List (Nat × AV)
  | _, [] => []
  | i, x :: l => (i, x) :: tin (i + 1) l
def hin2 : Nat → List Block → List (Nat × Option Block)
  | _, [] => []
  | i, B :: l => (i, some B) :: hin2 (i + 1) l
theorem get_tin : ∀ (l : List AV) (i t : Nat), get (tin i l) t = if i ≤ t then (l[t - i]?).getD .any else .any
  | [], i, t => by simp [tin, get]
  | x :: l, i, t => by
    simp only [tin, get]
    split
    · rename_i h
      have := Nat.eq_of_beq_eq_true h
      subst this
      simp
    · rename_i h
      have hne : t ≠ i := fun e => by subst e; rw [Nat.beq_refl] at h; cases h
      rw [get_tin l (i + 1) t]
      by_cases h1 : i + 1 ≤ t
      · rw [if_pos h1, if_pos (by omega), show t - i = (t - (i + 1)) + 1 by omega]; rfl
      · rw [if_neg h1, if_neg (by omega)]
theorem geth_hin2 : ∀ (l : List Block) (i t : Nat), geth (hin2 i l) t = if i ≤ t then l[t - i]? else none
  | [], i, t => by simp [hin2, geth]
  | x :: l, i, t => by
    simp only [hin2, geth]
    split
    · rename_i h
      have := Nat.eq_of_beq_eq_true h
      subst this
      simp
    · rename_i h
      have hne : t ≠ i := fun e => by subst e; rw [Nat.beq_refl] at h; cases h
      rw [geth_hin2 l (i + 1) t]
      by_cases h1 : i + 1 ≤ t
      · rw [if_pos h1, if_pos (by omega), show t - i = (t - (i + 1)) + 1 by omega]; rfl
      · rw [if_neg h1, if_neg (by omega)]

/-- what is read when the function is left -/
def vRes (C : Ctx) (st : St) : List ResultVar → (List AV → Prop) → Prop
  | [], K => K []
  | .tmp t :: l, K => vRes C st l fun r => K (get st.T t :: r)
  | .cell a t :: l, K => vLoad C t (get st.T a) (geth st.H) fun e => vRes C st l fun r => K (e.v :: r)
def one (l : List AV) : AV := match l with
  | [x] => x
  | l => .tup l

section
variable {C : Ctx}
theorem vLoad_run {t : TypeId} {x : AV} {H : Nat → Option Block} {K : Eff → Prop} (h : vLoad C t x H K) : ∃ e, K e ∧ ∀ E w u, HInv E H w → RepA w E x u → ∃ p v, u = .pointer (some p) ∧ (loadVar t p).run C.P w = .ok v w ∧ RepA w E e.v v ∧ EvOk E w w ((loadVar t p).events C.P w #[]) := by
  let o : Oper := { (default : Oper) with op := .load t (.tmp 0), dst := none }
  have ho : o.op = .load t (.tmp 0) := rfl
  -- the contract of the operation, read at a state whose one slot holds x
  unfold vLoad at h
  split at h
  · rename_i i b st j k hi
    unfold vLoadB at h
    split at h
    · rename_i cs hb
      replace h := ck_out h
      obtain ⟨hj, h⟩ := h
      have hj : j = 0 := by simpa using hj
      split at h
      · rename_i v hm hl
        have hl : ((cs.drop k).take i.sz).length = i.sz := by simpa using hl
        refine ⟨_, h, fun E w u hh hr => ?_⟩
        obtain ⟨hU, e⟩ := rep_ptr hr
        obtain ⟨hg, cells, p, hs, hle, hc⟩ := hh.hp b _ hb
        have hlen : k + i.sz ≤ cs.length ∨ i.sz = 0 := by simp only [List.length_take, List.length_drop] at hl; omega
        obtain ⟨y, hy, hr⟩ := mkVar_run (C := C) (w := w) (E := E) (C.ok _ _ hi) (p := ⟨E.blk b, j * st + k, none⟩) rfl hm hl (fun q => cells.getD (k + q) undef) (fun q hq => by
            have : k + q < cells.size := by omega
            simp [cellAt, p.cell, hj, Array.getD_eq_getD_getElem?, this]) (fun q y hy => hc _ _ (take_drop_get hy).1)
        exact ⟨_, y, e, hy, hr.1, .own hU hg p.lt hr.2⟩
      · exact h.elim
    · rename_i st' es hb
      replace h := ck_out h
      obtain ⟨hst, e', he, h⟩ := h
      have hst : st = st' := by simpa using hst
      subst hst
      split at h
      · rename_i v hm hl
        have hl : ((e'.drop k).take i.sz).length = i.sz := by simpa using hl
        refine ⟨_, h, fun E w u hh hr => ?_⟩
        obtain ⟨hU, e⟩ := rep_ptr hr
        have hg := rep_ptr_g hr
        obtain ⟨_, cells, p, hs, hle, hel, hc⟩ := (hh.hp b _ hb).resolve_left fun g => rep_ptr_g hr g.1
        have hlen : k + i.sz ≤ e'.length ∨ i.sz = 0 := by simp only [List.length_take, List.length_drop] at hl; omega
        have hes : e'.length = st := hel _ (List.mem_of_getElem? he)
        have hjl : j < es.length := (List.getElem?_eq_some_iff.1 he).1
        have hjs : j * st + st ≤ es.length * st := by
          have : (j + 1) * st ≤ es.length * st := Nat.mul_le_mul_right _ hjl
          simpa [Nat.succ_mul] using this
        obtain ⟨y, hy, hr⟩ := mkVar_run (C := C) (w := w) (E := E) (C.ok _ _ hi) (p := ⟨E.blk b, j * st + k, none⟩) rfl hm (by simpa using hl) (fun q => cells.getD (j * st + (k + q)) undef) (fun q hq => by
            have : j * st + k + q < cells.size := by omega
            simp [cellAt, p.cell, Array.getD_eq_getD_getElem?, this, ← Nat.add_assoc]) (fun q y hy => by
            simp only [List.getElem?_map, Option.map_eq_some_iff] at hy
            obtain ⟨c, hcq, rfl⟩ := hy
            exact .cv _ _ (hc j e' (k + q) c he (take_drop_get hcq).1))
        exact ⟨_, y, e, hy, hr.1, .own hU hg p.lt hr.2⟩
      · exact h.elim
    · exact h.elim
  · rename_i i cs hi
    split at h
    · rename_i v hm hl
      have hl : (cs.take i.sz).length = i.sz := by simpa using hl
      refine ⟨_, h, fun E w u hh hr => ?_⟩
      obtain ⟨p, vs, e, hsp, hpr, hc, hr⟩ := rep_rp hr
      have hlen : i.sz ≤ cs.length := by simp only [List.length_take] at hl; omega
      obtain ⟨y, hy, hr⟩ := mkVar_run (C := C) (w := w) (E := E) (C.ok _ _ hi) hsp hm (by simpa using hl) vs (fun q hq => hc q cs[q] (by simp)) (fun q y hy => by
          simp only [List.getElem?_map, Option.map_eq_some_iff] at hy
          obtain ⟨c, hcq, rfl⟩ := hy
          rw [List.getElem?_take] at hcq
          split at hcq
          · exact .cv _ _ (hr q c hcq)
          · cases hcq)
      exact ⟨_, y, e, hy, hr.1, .ro hpr (hh.frlt _ (hh.prfr _ hpr)) hr.2⟩
    · exact h.elim
  · exact h.elim

def resF (tmps : Array Value) : ResultVar → Sem Value
  | .tmp t => pure (tmps.getD t undef)
  | .cell a t => do loadVar t (← asAddr (tmps.getD a undef))
theorem results_eq (fn : Func) (tmps : Array Value) : results fn tmps = (do let vs ← fn.results.mapM (resF tmps); pure (if h : vs.size = 1 then vs[0] else .tuple vs)) := by
  unfold results
  congr 1
theorem vRes_run {st : St} : ∀ {l : List ResultVar} {K : List AV → Prop}, vRes C st l K → ∃ r, K r ∧ ∀ N E a w, TInv N E (get st.T) a w → HInv E (geth st.H) w →
    ∃ vs : List Value, (l.mapM (resF a.tmps)).run C.P w = .ok vs w ∧ vs.length = r.length ∧ (∀ (k : Nat) (y : AV), r[k]? = some y → RepA w E y (vs.getD k undef)) ∧ EvOk E w w ((l.mapM (resF a.tmps)).events C.P w #[])
  | [], K, h => ⟨[], h, fun _ E a w _ _ => ⟨[], rfl, rfl, by simp, .nil rfl⟩⟩
  | .tmp t :: l, K, h => by
    obtain ⟨r, h1, h2⟩ := vRes_run (l := l) h
    refine ⟨_, h1, fun N E a w ht hh => ?_⟩
    obtain ⟨vs, e1, e2, e3, e4⟩ := h2 N E a w ht hh
    refine ⟨a.tmps.getD t undef :: vs, ?_, by simp [e2], fun k y hy => ?_, ?_⟩
    rotate_left 2
    · rw [List.mapM_cons]
      refine .union fun ev hev => ?_
      rcases mem_seq hev (show (resF a.tmps (.tmp t)).run C.P w = .ok (a.tmps.getD t undef) w from rfl) with h | h
      · simp [resF] at h
      · rcases mem_seq h e1 with h | h
        · exact e4.one h
        · simp at h
    · have h0 : (resF a.tmps (.tmp t)).run C.P w = .ok (a.tmps.getD t undef) w := rfl
      rw [List.mapM_cons, Sem.run_bind, h0]
      simp only [Result.andThen_ok]
      rw [Sem.run_bind, e1]; rfl
    · cases k with
      | zero => simp only [List.getElem?_cons_zero, Option.some.injEq] at hy; subst hy; exact ht.tm t
      | succ k => exact e3 k y (by simpa using hy)
  | .cell x t :: l, K, h => by
    simp only [vRes] at h
    obtain ⟨e, he, hload⟩ := vLoad_run h
    obtain ⟨r, h1, h2⟩ := vRes_run (l := l) he
    refine ⟨_, h1, fun N E a w ht hh => ?_⟩
    obtain ⟨vs, e1, e2, e3, e4⟩ := h2 N E a w ht hh
    obtain ⟨p, v, q1, q2, q3, q4⟩ := hload E w _ hh (ht.tm x)
    refine ⟨v :: vs, ?_, by simp [e2], fun k y hy => ?_, ?_⟩
    rotate_left 2
    · rw [List.mapM_cons]
      refine .union fun ev hev => ?_
      rcases mem_seq hev (show (resF a.tmps (.cell x t)).run C.P w = .ok v w by simp only [resF, q1, asAddr, Sem.run_bind, Sem.run_pure, Result.andThen_ok, q2]) with h | h
      · simp only [resF, q1, asAddr] at h
        rcases mem_seq h (show _ = Result.ok p w from rfl) with h | h
        · simp at h
        · exact q4.one h
      · rcases mem_seq h e1 with h | h
        · exact e4.one h
        · simp at h
    · have h0 : (resF a.tmps (.cell x t)).run C.P w = .ok v w := by
        simp only [resF, q1, asAddr, Sem.run_bind, Sem.run_pure, Result.andThen_ok, q2]
      rw [List.mapM_cons, Sem.run_bind, h0]
      simp only [Result.andThen_ok]
      rw [Sem.run_bind, e1]; rfl
    · cases k with
      | zero => simp only [List.getElem?_cons_zero, Option.some.injEq] at hy; subst hy; exact q3
      | succ k => exact e3 k y (by simpa using hy)

/-- what must hold when the function is left -/
def Left (C : Ctx) (k nx : Nat) (rs : Array ResultVar) (res : AV) (Hout : List (Nat × Option Block)) (e : Exit) (st : St) : Prop := match e with
  | .normal | .ret => vRes C st rs.toList fun r => ∃ l : List (Nat × Nat), renOk k nx l = true ∧ LeA (lk l) res (one r) ∧ AllH (lk l) (geth st.H) Hout
  | _ => False
/-- how a contract is proved -/
theorem spec_mk (hm : C.P.follows .mixedOrders = true) (he : C.M.Enters) {f : FuncId} {fn : Func} {c : Code} {args : List AV} {Hin : List Block} {res : AV} {Hout : List (Nat × Option Block)} (nx : Nat) (hf : C.P.funcs[f]? = some fn) (hn : (fn.name == "runtime.NumGoroutine") = false) (hb : fn.body = some c)
    (hl : args.length ≤ fn.ntmps) (k : Nat) (hk : Hin.length = k) (h : vc C fn.ntmps k c ⟨tin 0 args, hin2 0 Hin, k⟩ (Left C k nx fn.results res Hout)) : Spec C f args Hin res Hout := by
  subst hk
  refine ⟨⟨fn, hf, hn, by rw [hb]; rfl⟩, fun E w x vs hvl hvs hh hU hok => he.callsOf hf hn hb ?_⟩
  have hI : Inv C.M fn.ntmps Hin.length E ⟨tin 0 args, hin2 0 Hin, Hin.length⟩ { tmps := vs.toArray ++ Array.replicate (fn.ntmps - vs.toArray.size) undef, defers := [] } w x := by
    refine ⟨⟨fun t => ?_, by simp; omega, rfl⟩, ?_, fun b hb => (hU b).1 hb, fun b hb => (hU b).2 hb, hok⟩
    · simp only [get_tin, Nat.zero_le, if_true, Nat.sub_zero]
      cases ha : args[t]? with
      | none => exact .any _
      | some x =>
        have := hvs t x ha
        have hlt : t < vs.length := by rw [hvl]; exact (List.getElem?_eq_some_iff.1 ha).1
        have e : (vs.toArray ++ Array.replicate (fn.ntmps - vs.toArray.size) undef).getD t undef = vs.getD t undef := by
          simp only [Array.getD_eq_getD_getElem?]
          rw [Array.getElem?_append_left (by simpa using hlt)]
          simp [List.getD]
        rw [e]; exact this
    · have : geth (hin2 0 Hin) = hin Hin := by funext b; rw [geth_hin2]; simp [hin]
      simp only [this]; exact hh
  refine C.sound.mono (vc_ok hm c _ _ h f E _ w x hI) fun e a' w' x' ⟨st', E', h1, h2, h3, hle⟩ => ?_
  have fin : (vRes C st' fn.results.toList fun r => ∃ l : List (Nat × Nat), renOk Hin.length nx l = true ∧ LeA (lk l) res (one r) ∧ AllH (lk l) (geth st'.H) Hout) → a'.defers = [] ∧ ∀ w₁, C.M.Rel w' w₁ → ∃ v, (results fn a'.tmps).run C.P w₁ = .ok v w₁ ∧ C.M.evs x' w₁ (seen C.P f ((results fn a'.tmps).events C.P w₁ #[])) ∧
      ∃ E', RepA w₁ E' res v ∧ HInv E' (geth Hout) w₁ ∧ Ext (· < Hin.length) E w E' w₁ ∧ C.M.ok x' E' w₁ ∧ C.M.le x w.heap.size x' := fun hv => by
    refine ⟨h2.t.df, fun w₁ hrel => ?_⟩
    obtain ⟨hheap, hio⟩ := C.sound.rel hrel
    obtain ⟨s1, s2⟩ := h2.h.same hheap hio
    have st₁ := h2.t.mono s2 (fun _ h => h) h2.h.prfr
    have hok₁ := C.sound.okExt h2.ok s2
    have h3 := h3.trans (s2.weaken fun b hb => h2.k b hb)
    obtain ⟨r, ⟨l, q1, q2, q3⟩, hr⟩ := vRes_run hv
    obtain ⟨ws, e1, e2, e3, e4⟩ := hr _ E' a' w₁ st₁ s1
    obtain ⟨g1, g2⟩ := ren_heap q1 s1 h2.k q3
    have hone : RepA w₁ E' (one r) (if h : ws.toArray.size = 1 then ws.toArray[0] else .tuple ws.toArray) := by
      unfold one
      split
      · rename_i x
        have hws : ws.length = 1 := e2
        rw [dif_pos (by simpa using hws)]
        have := e3 0 x rfl
        have h0 : 0 < ws.length := by omega
        simpa [List.getD, h0] using this
      · rename_i hne
        have hws : ¬ ws.toArray.size = 1 := fun h => by
          have : r.length = 1 := by rw [← e2]; simpa using h
          obtain ⟨x, hx⟩ := List.length_eq_one_iff.1 this
          exact hne x hx
        rw [dif_neg hws]
        exact .tup _ _ (by simpa using e2) fun k y hy => by
          have := e3 k y hy
          simpa [List.getD, Array.getD_eq_getD_getElem?] using this
    refine ⟨_, ?_, C.sound.evSub (C.sound.okEv (es := (results fn a'.tmps).events C.P w₁ #[]) hok₁ (w' := w₁) ?_) seen_sub, _, LeA.rep q2 hone, g1, h3.trans g2, C.sound.okExt hok₁ g2, hle⟩
    · rw [results_eq, Array.mapM_eq_mapM_toList, Sem.run_bind, Sem.run_map, e1]
      rfl
    · rw [results_eq, Array.mapM_eq_mapM_toList]
      refine .union fun ev hev => ?_
      rcases mem_seq hev (show _ = Result.ok ws.toArray w₁ by rw [Sem.run_map, e1]; rfl) with h | h
      · rw [Sem.events_map] at h; exact e4.one h
      · simp at h
  cases e with
  | normal => exact fin h1
  | ret => exact fin h1
  | _ => exact h1.elim
end
end Go.Proofs.YtdjoodbidcncaaaGreatDoor.AW

/- A call, by the callee's contract. -/
namespace Go.Proofs.YtdjoodbidcncaaaGreatDoor.AW
open Go

theorem RepC.frz {w : World} {E : Emb} {ns : List Nat} {c : CV} {v : Value} (h : RepC w E.pr c v) : RepC w (E.frz ns).pr c v := h.mono (fun _ _ => rfl) fun _ h => .inl h
theorem RepA.frz {w : World} {E : Emb} {ns : List Nat} {x : AV} {v : Value} (h : RepA w E x v) : RepA w (E.frz ns) x v := h.mono (E' := E.frz ns) (fun _ _ => rfl) (fun _ h => .inl h) fun _ h => ⟨h, rfl, rfl, .rfl⟩
theorem RepA.frz_mono {w : World} {E : Emb} {ns ms : List Nat} {x : AV} {v : Value} (hs : ∀ b ∈ ns, b ∈ ms) (h : RepA w (E.frz ns) x v) : RepA w (E.frz ms) x v :=
  h.mono (E := E.frz ns) (E' := E.frz ms) (fun _ _ => rfl) (fun _ h => h.imp id fun ⟨b, h1, h2⟩ => ⟨b, hs b h1, h2⟩) fun _ h => ⟨h, rfl, rfl, .rfl⟩

mutual
/-- a value handed over: rows and boxes that are not handed over as such are read only there -/
def vExp (bs : List Nat) (H : Nat → Option Block) : AV → (AV → List Nat → Prop) → Prop
  | .own b st o n cap, K => if bs.contains b then K (.own b st o n cap) [] else match H b with
    | some (.row st' es) => ck (st == st') <| o + n ≤ es.length ∧ K (.cv (.ro st ((es.drop o).take n) cap)) [b]
    | _ => False
  | .ptr b st i k, K => if bs.contains b then K (.ptr b st i k) [] else match H b with
    | some (.box l) => ck (i == 0) <| vFrz H (l.drop k) fun cs ns => K (.cv (.rp cs)) (b :: ns)
    | some (.row st' es) => ck (st == st') <| ∃ e, es[i]? = some e ∧ K (.cv (.rp (e.drop k))) [b]
    | _ => False
  | .agg cs, K => vExpL bs H cs fun r ns => K (.agg r) ns
  | .tup cs, K => vExpL bs H cs fun r ns => K (.tup r) ns
  | .ifc t v, K => vExp bs H v fun r ns => K (.ifc t r) ns
  | .fn f fs cs, K => vExpL bs H fs fun r ns => vExpL bs H cs fun q ms => K (.fn f r q) (ns ++ ms)
  | .any, K => K .any []
  | .cv c, K => K (.cv c) []
  | .mp b, K => bs.contains b = true ∧ K (.mp b) []
  | .ch b, K => bs.contains b = true ∧ K (.ch b) []
def vExpL (bs : List Nat) (H : Nat → Option Block) : List AV → (List AV → List Nat → Prop) → Prop
  | [], K => K [] []
  | x :: l, K => vExp bs H x fun y ns => vExpL bs H l fun r ms => K (y :: r) (ns ++ ms)
end

/-- what an export says -/
def ExpOk (bs : List Nat) (H : Nat → Option Block) (x y : AV) (ns : List Nat) : Prop := (∀ b ∈ ns, (∃ B, H b = some B)) ∧
  ∀ (H' : Nat → Option Block), (∀ b ∈ ns, H' b = H b) → ∀ E w, HInv E H' w → ∀ u, RepA w E x u → RepA w (E.frz ns) y u
def ExpOkL (bs : List Nat) (H : Nat → Option Block) (xs ys : List AV) (ns : List Nat) : Prop := (∀ b ∈ ns, (∃ B, H b = some B)) ∧ ys.length = xs.length ∧
  ∀ (H' : Nat → Option Block), (∀ b ∈ ns, H' b = H b) → ∀ E w, HInv E H' w → ∀ (k : Nat) (y : AV), ys[k]? = some y → ∃ x, xs[k]? = some x ∧ ∀ u, RepA w E x u → RepA w (E.frz ns) y u

theorem RepA.aggL {w : World} {E E' : Emb} {xs ys : List AV} {vs : Array Value} (hl : ys.length = xs.length) (h : ∀ (k : Nat) (y : AV), ys[k]? = some y → ∃ x, xs[k]? = some x ∧ ∀ u, RepA w E x u → RepA w E' y u)
    (hs : vs.size = xs.length) (hr : ∀ (k : Nat) (x : AV), xs[k]? = some x → RepA w E x (vs.getD k undef)) : vs.size = ys.length ∧ ∀ (k : Nat) (y : AV), ys[k]? = some y → RepA w E' y (vs.getD k undef) :=
  ⟨hs.trans hl.symm, fun k y hy => by obtain ⟨x, hx, g⟩ := h k y hy; exact g _ (hr k x hx)⟩

mutual
theorem vExp_out {bs : List Nat} {H : Nat → Option Block} : ∀ {x : AV} {K : AV → List Nat → Prop}, vExp bs H x K → ∃ y ns, K y ns ∧ (∀ b ∈ ns, b ∉ bs ∨ (∃ B, H b = some B)) ∧ ExpOk bs H x y ns
  | .own b st o n cap, K, h => by
    simp only [vExp] at h
    split at h
    · exact ⟨_, [], h, by simp, by simp, fun _ _ E w _ u hu => hu.frz⟩
    · split at h
      · rename_i st' es hb
        replace h := ck_out h
        obtain ⟨hst, hl, h⟩ := h
        have hst : st = st' := by simpa using hst
        subst hst
        exact ⟨_, [b], h, by simpa using .inr ⟨_, hb⟩, by simpa using ⟨_, hb⟩, fun H' hH E w hi u hu => .cv _ _ (own_ro hi ((hH b (by simp)).trans hb) hu hl (fun _ h => .inl h) fun g => .inr ⟨b, by simp, g, rfl⟩)⟩
      · exact h.elim
  | .ptr b st i k, K, h => by
    simp only [vExp] at h
    split at h
    · exact ⟨_, [], h, by simp, by simp, fun _ _ E w _ u hu => hu.frz⟩
    · split at h
      · rename_i l hb
        replace h := ck_out h
        obtain ⟨hi0, h⟩ := h
        have hi0 : i = 0 := by simpa using hi0
        obtain ⟨cs, ns, hk, hlen, hB, hc⟩ := vFrz_out h
        have live : ∀ c ∈ b :: ns, ∃ B, H c = some B := fun c hc => by
          rcases List.mem_cons.1 hc with rfl | hc
          · exact ⟨_, hb⟩
          · exact hB c hc
        refine ⟨_, b :: ns, hk, fun c hc => .inr (live c hc), live, fun H' hH E w hi u hu => ?_⟩
        obtain ⟨hU, rfl⟩ := rep_ptr hu
        have hg := rep_ptr_g hu
        obtain ⟨_, cells, p, q1, q2, q3⟩ := hi.hp b _ ((hH b (by simp)).trans hb)
        refine .cv _ _ (.rp _ _ (fun q => cells.getD (k + q) undef) rfl (.inr ⟨b, by simp, hg, rfl⟩) (fun q y hy => ?_) fun q y hy => ?_)
        · have hq := (List.getElem?_eq_some_iff.1 hy).1
          rw [hlen] at hq
          simp at hq
          have hlt : k + q < cells.size := by omega
          subst hi0
          simp [cellAt, p.cell, Array.getD_eq_getD_getElem?, hlt]
        · obtain ⟨z, hz, hzr⟩ := hc H' (fun c hc => hH c (by simp [hc])) E w hi (E.frz (b :: ns)).pr (fun _ h => .inl h) (fun c hc hg => .inr ⟨c, by simp [hc], hg, rfl⟩) q y hy
          rw [List.getElem?_drop] at hz
          exact hzr _ (q3 _ z hz)
      · rename_i st' es hb
        replace h := ck_out h
        obtain ⟨hst, e, he, h⟩ := h
        have hst : st = st' := by simpa using hst
        subst hst
        refine ⟨_, [b], h, by simpa using .inr ⟨_, hb⟩, by simpa using ⟨_, hb⟩, fun H' hH E w hi u hu => ?_⟩
        obtain ⟨hU, rfl⟩ := rep_ptr hu
        have hg := rep_ptr_g hu
        obtain ⟨_, cells, p, q1, q2, q3, q4⟩ := (hi.hp b _ ((hH b (by simp)).trans hb)).resolve_left fun g => hg g.1
        refine .cv _ _ (.rp _ _ (fun q => cells.getD (i * st + (k + q)) undef) rfl (.inr ⟨b, by simp, hg, rfl⟩) (fun q y hy => ?_) fun q y hy => ?_)
        · rw [List.getElem?_drop] at hy
          have hq := (List.getElem?_eq_some_iff.1 hy).1
          rw [q3 e (List.mem_of_getElem? he)] at hq
          have hil := (List.getElem?_eq_some_iff.1 he).1
          have h2 : (i + 1) * st ≤ es.length * st := Nat.mul_le_mul_right _ hil
          rw [Nat.succ_mul] at h2
          have hlt : i * st + k + q < cells.size := by omega
          simp [cellAt, p.cell, Array.getD_eq_getD_getElem?, hlt, ← Nat.add_assoc]
        · rw [List.getElem?_drop] at hy
          exact (q4 i e (k + q) y he hy).frz
      · exact h.elim
  | .agg cs, K, h => by
    simp only [vExp] at h
    obtain ⟨r, ns, hk, hn, h1, h2, h3⟩ := vExpL_out h
    exact ⟨_, ns, hk, hn, h1, fun H' hH E w hi u hu => by
      obtain ⟨vs, rfl, hs, hr⟩ := rep_agg hu
      obtain ⟨a1, a2⟩ := RepA.aggL h2 (h3 H' hH E w hi) hs hr
      exact .agg _ _ a1 a2⟩
  | .tup cs, K, h => by
    simp only [vExp] at h
    obtain ⟨r, ns, hk, hn, h1, h2, h3⟩ := vExpL_out h
    exact ⟨_, ns, hk, hn, h1, fun H' hH E w hi u hu => by
      obtain ⟨vs, rfl, hs, hr⟩ := rep_tup hu
      obtain ⟨a1, a2⟩ := RepA.aggL h2 (h3 H' hH E w hi) hs hr
      exact .tup _ _ a1 a2⟩
  | .ifc t v, K, h => by
    simp only [vExp] at h
    obtain ⟨r, ns, hk, hn, h1, h2⟩ := vExp_out h
    exact ⟨_, ns, hk, hn, h1, fun H' hH E w hi u hu => by
      obtain ⟨v, rfl, hv⟩ := rep_ifc hu
      exact .ifc _ _ _ (h2 H' hH E w hi v hv)⟩
  | .fn f fs cs, K, h => by
    simp only [vExp] at h
    obtain ⟨r, ns, h, hn, h1, h2, h3⟩ := vExpL_out h
    obtain ⟨q, ms, hk, hm, g1, g2, g3⟩ := vExpL_out h
    refine ⟨_, ns ++ ms, hk, fun b hb => (List.mem_append.1 hb).elim (hn b) (hm b), fun b hb => (List.mem_append.1 hb).elim (h1 b) (g1 b), fun H' hH E w hi u hu => ?_⟩
    cases hu with
    | fn _ _ _ a b ha hb hf hg =>
      obtain ⟨a1, a2⟩ := RepA.aggL h2 (h3 H' (fun b hb => hH b (List.mem_append.2 (.inl hb))) E w hi) ha hf
      obtain ⟨b1, b2⟩ := RepA.aggL g2 (g3 H' (fun b hb => hH b (List.mem_append.2 (.inr hb))) E w hi) hb hg
      exact .fn _ _ _ _ _ a1 b1 (fun k y hy => (a2 k y hy).frz_mono fun b hb => List.mem_append.2 (.inl hb)) (fun k y hy => (b2 k y hy).frz_mono fun b hb => List.mem_append.2 (.inr hb))
  | .any, K, h => ⟨_, [], h, by simp, by simp, fun _ _ E w _ u hu => hu.frz⟩
  | .cv c, K, h => ⟨_, [], h, by simp, by simp, fun _ _ E w _ u hu => hu.frz⟩
  | .mp b, K, h => ⟨_, [], h.2, by simp, by simp, fun _ _ E w _ u hu => hu.frz⟩
  | .ch b, K, h => ⟨_, [], h.2, by simp, by simp, fun _ _ E w _ u hu => hu.frz⟩
theorem vExpL_out {bs : List Nat} {H : Nat → Option Block} : ∀ {xs : List AV} {K : List AV → List Nat → Prop}, vExpL bs H xs K → ∃ ys ns, K ys ns ∧ (∀ b ∈ ns, b ∉ bs ∨ (∃ B, H b = some B)) ∧ ExpOkL bs H xs ys ns
  | [], K, h => ⟨[], [], h, by simp, by simp, rfl, fun _ _ _ _ _ k y hy => by simp at hy⟩
  | x :: l, K, h => by
    simp only [vExpL] at h
    obtain ⟨y, ns, h, hn, h1, h2⟩ := vExp_out h
    obtain ⟨r, ms, hk, hm, g1, g2, g3⟩ := vExpL_out h
    refine ⟨y :: r, ns ++ ms, hk, fun b hb => (List.mem_append.1 hb).elim (hn b) (hm b), fun b hb => (List.mem_append.1 hb).elim (h1 b) (g1 b), by simp [g2], fun H' hH E w hi k z hz => ?_⟩
    cases k with
    | zero =>
      simp only [List.getElem?_cons_zero, Option.some.injEq] at hz
      subst hz
      exact ⟨x, rfl, fun u hu => (h2 H' (fun b hb => hH b (List.mem_append.2 (.inl hb))) E w hi u hu).frz_mono fun b hb => List.mem_append.2 (.inl hb)⟩
    | succ k =>
      obtain ⟨z', hz', g⟩ := g3 H' (fun b hb => hH b (List.mem_append.2 (.inr hb))) E w hi k z (by simpa using hz)
      exact ⟨z', by simpa using hz', fun u hu => (g u hu).frz_mono fun b hb => List.mem_append.2 (.inr hb)⟩
end
end Go.Proofs.YtdjoodbidcncaaaGreatDoor.AW

/- A call, by the callee's contract: the rule. -/
namespace Go.Proofs.YtdjoodbidcncaaaGreatDoor.AW
open Go

mutual
/-- names turned -/
def renA (μ : Nat → Nat) : AV → AV
  | .ptr b st i k => .ptr (μ b) st i k
  | .own b st o n cap => .own (μ b) st o n cap
  | .agg cs => .agg (renL μ cs)
  | .tup cs => .tup (renL μ cs)
  | .ifc t v => .ifc t (renA μ v)
  | .fn f fs cs => .fn f (renL μ fs) (renL μ cs)
  | .mp b => .mp (μ b)
  | .ch b => .ch (μ b)
  | x => x
def renL (μ : Nat → Nat) : List AV → List AV
  | [] => []
  | x :: l => renA μ x :: renL μ l
end
def renB (μ : Nat → Nat) : Block → Block
  | .box cs => .box (renL μ cs)
  | .row st es => .row st es
  | .mp es => .mp es
  | .ch cap es shut => .ch cap es shut
mutual
/-- all names are below n -/
def nmA (n : Nat) : AV → Bool
  | .ptr b _ _ _ => decide (b < n)
  | .own b _ _ _ _ => decide (b < n)
  | .agg cs => nmL n cs
  | .tup cs => nmL n cs
  | .ifc _ v => nmA n v
  | .fn _ fs cs => nmL n fs && nmL n cs
  | .mp b => decide (b < n)
  | .ch b => decide (b < n)
  | _ => true
def nmL (n : Nat) : List AV → Bool
  | [] => true
  | x :: l => nmA n x && nmL n l
end
def nmB (n : Nat) : Block → Bool
  | .box cs => nmL n cs
  | .row _ _ => true
  | .mp _ => true
  | .ch .. => true
def IsSc : CV → Prop
  | .sc _ => True
  | .ifc _ c => IsSc c
  | _ => False
mutual
/-- nothing in it is read only memory -/
def NoR : AV → Prop
  | .cv c => IsSc c
  | .agg cs => NoRL cs
  | .tup cs => NoRL cs
  | .ifc _ v => NoR v
  | .fn _ fs cs => NoRL fs ∧ NoRL cs
  | _ => True
def NoRL : List AV → Prop
  | [] => True
  | x :: l => NoR x ∧ NoRL l
end
def NoRB : Block → Prop
  | .box cs => NoRL cs
  | .row _ es => ∀ e ∈ es, ∀ c ∈ e, IsSc c
  | .mp es => ∀ e ∈ es, ∀ c ∈ e.2, IsSc c
  | .ch _ es _ => ∀ c ∈ es, IsSc c
def NoRH : List (Nat × Option Block) → Prop
  | [] => True
  | (_, none) :: l => NoRH l
  | (_, some B) :: l => NoRB B ∧ NoRH l
def nmH (n : Nat) : List (Nat × Option Block) → Bool
  | [] => true
  | (b, none) :: l => nmH n l
  | (b, some B) :: l => decide (b < n) && nmB n B && nmH n l
theorem NoRH.out : ∀ {l : List (Nat × Option Block)} {b : Nat} {B : Block}, NoRH l → geth l b = some B → NoRB B
  | (c, none) :: l, b, B, h, hb => by
    simp only [NoRH] at h; simp only [geth] at hb
    split at hb
    · cases hb
    · exact NoRH.out h hb
  | (c, some D) :: l, b, B, h, hb => by
    simp only [NoRH] at h; simp only [geth] at hb
    split at hb
    · cases hb; exact h.1
    · exact NoRH.out h.2 hb
theorem nmH_out {n : Nat} : ∀ {l : List (Nat × Option Block)} {b : Nat} {B : Block}, nmH n l = true → geth l b = some B → b < n ∧ nmB n B = true
  | (c, none) :: l, b, B, h, hb => by
    simp only [nmH] at h; simp only [geth] at hb
    split at hb
    · cases hb
    · exact nmH_out h hb
  | (c, some D) :: l, b, B, h, hb => by
    simp only [nmH, Bool.and_eq_true, decide_eq_true_eq] at h; simp only [geth] at hb
    split at hb
    · rename_i e
      have := Nat.eq_of_beq_eq_true e
      cases hb; subst this; exact h.1
    · exact nmH_out h.2 hb

theorem IsSc.rep {w w' : World} {pr pr' : Nat → Prop} : ∀ {c : CV} {v : Value}, IsSc c → RepC w pr c v → RepC w' pr' c v
  | .sc u, v, _, h => by cases h with | sc _ ho => exact .sc _ ho
  | .ifc t c, v, hs, h => by cases h with | ifc _ _ u hu => exact .ifc _ _ _ (IsSc.rep hs hu)
/-- a value of the callee's, told by the caller's names -/
structure Turn (w : World) (n : Nat) (μ : Nat → Nat) (E E' : Emb) : Prop where
  nm : ∀ b, b < n → E.U b → E'.U (μ b) ∧ E'.blk (μ b) = E.blk b ∧ E'.sz (μ b) = E.sz b ∧ (E'.gh (μ b) ↔ E.gh b)
mutual
theorem renA_rep {w : World} {n : Nat} {μ : Nat → Nat} {E E' : Emb} (ht : Turn w n μ E E') : ∀ {x : AV} {v : Value}, nmA n x = true → ((∀ r, E.pr r → E'.pr r) ∨ NoR x) → RepA w E x v → RepA w E' (renA μ x) v
  | .any, v, _, _, _ => .any v
  | .cv c, v, _, hp, h => by
    cases h with
    | cv _ _ h =>
      rcases hp with hp | hp
      · exact .cv _ _ (h.mono (fun _ _ => rfl) hp)
      · exact .cv _ _ (IsSc.rep hp h)
  | .ptr b st i k, v, hn, _, h => by
    obtain ⟨hU, rfl⟩ := rep_ptr h
    have hg := rep_ptr_g h
    simp only [nmA, decide_eq_true_eq] at hn
    obtain ⟨a1, a2, a3, a4⟩ := ht.nm b hn hU
    rw [← a2]; exact .ptr _ _ _ _ a1 fun g => hg (a4.1 g)
  | .own b st o m cap, v, hn, _, h => by
    obtain ⟨c, a, rfl, hU, hnc, hc, hh⟩ := rep_own h
    simp only [nmA, decide_eq_true_eq] at hn
    obtain ⟨a1, a2, a3, a4⟩ := ht.nm b hn hU
    rcases hh with ⟨hg, rfl, hs⟩ | ⟨hg, rfl, rfl⟩
    · rw [← a2]; exact .own _ _ _ _ _ _ a1 (fun g => hg (a4.1 g)) hnc hc (a3 ▸ hs)
    · exact .own0 _ _ _ _ _ a1 (a4.2 hg) fun x hx => (hc x hx).symm
  | .agg cs, v, hn, hp, h => by
    obtain ⟨vs, rfl, hs, hr⟩ := rep_agg h
    obtain ⟨g1, g2⟩ := renL_rep ht (xs := cs) (by simpa [nmA] using hn) (hp.imp id (by simp [NoR]))
    exact .agg _ _ (hs.trans g1.symm) fun k y hy => by obtain ⟨x, hx, g⟩ := g2 k y hy; exact g _ (hr k x hx)
  | .tup cs, v, hn, hp, h => by
    obtain ⟨vs, rfl, hs, hr⟩ := rep_tup h
    obtain ⟨g1, g2⟩ := renL_rep ht (xs := cs) (by simpa [nmA] using hn) (hp.imp id (by simp [NoR]))
    exact .tup _ _ (hs.trans g1.symm) fun k y hy => by obtain ⟨x, hx, g⟩ := g2 k y hy; exact g _ (hr k x hx)
  | .ifc t c, v, hn, hp, h => by
    obtain ⟨u, rfl, hu⟩ := rep_ifc h
    exact .ifc _ _ _ (renA_rep ht (by simpa [nmA] using hn) (hp.imp id (by simp [NoR])) hu)
  | .fn f fs cs, v, hn, hp, h => by
    simp only [nmA, Bool.and_eq_true] at hn
    obtain ⟨g1, g2⟩ := renL_rep ht (xs := fs) hn.1 (hp.imp id fun h => by simp only [NoR] at h; exact h.1)
    obtain ⟨k1, k2⟩ := renL_rep ht (xs := cs) hn.2 (hp.imp id fun h => by simp only [NoR] at h; exact h.2)
    cases h with
    | fn _ _ _ a b ha hb hf hg =>
      exact .fn _ _ _ _ _ (ha.trans g1.symm) (hb.trans k1.symm) (fun k y hy => by obtain ⟨x, hx, g⟩ := g2 k y hy; exact g _ (hf k x hx)) (fun k y hy => by obtain ⟨x, hx, g⟩ := k2 k y hy; exact g _ (hg k x hx))
  | .ch b, v, hn, _, h => by
    cases h with
    | ch _ hU hg =>
      simp only [nmA, decide_eq_true_eq] at hn
      obtain ⟨a1, a2, a3, a4⟩ := ht.nm b hn hU
      rw [← a2]; exact .ch _ a1 fun g => hg (a4.1 g)
  | .mp b, v, hn, _, h => by
    cases h with
    | mp _ hU hg =>
      simp only [nmA, decide_eq_true_eq] at hn
      obtain ⟨a1, a2, a3, a4⟩ := ht.nm b hn hU
      rw [← a2]; exact .mp _ a1 fun g => hg (a4.1 g)
theorem renL_rep {w : World} {n : Nat} {μ : Nat → Nat} {E E' : Emb} (ht : Turn w n μ E E') : ∀ {xs : List AV}, nmL n xs = true → ((∀ r, E.pr r → E'.pr r) ∨ NoRL xs) → (renL μ xs).length = xs.length ∧ ∀ (k : Nat) (y : AV), (renL μ xs)[k]? = some y → ∃ x, xs[k]? = some x ∧ ∀ v, RepA w E x v → RepA w E' y v
  | [], _, _ => ⟨rfl, fun k y hy => by simp [renL] at hy⟩
  | x :: l, hn, hp => by
    simp only [nmL, Bool.and_eq_true] at hn
    obtain ⟨h1, h2⟩ := renL_rep ht (xs := l) hn.2 (hp.imp id fun h => by simp only [NoRL] at h; exact h.2)
    refine ⟨by simp [renL, h1], fun k y hy => ?_⟩
    cases k with
    | zero =>
      simp only [renL, List.getElem?_cons_zero, Option.some.injEq] at hy
      subst hy
      exact ⟨x, rfl, fun v hv => renA_rep ht hn.1 (hp.imp id fun h => by simp only [NoRL] at h; exact h.1) hv⟩
    | succ k => simpa using h2 k y (by simpa [renL] using hy)
end
theorem renB_rep {w : World} {n : Nat} {μ : Nat → Nat} {E E' : Emb} (ht : Turn w n μ E E') {b : Nat} {B : Block} (hb : b < n) (hU : E.U b) (hn : nmB n B = true) (hp : (∀ r, E.pr r → E'.pr r) ∨ NoRB B) (h : RepB w E b B) : RepB w E' (μ b) (renB μ B) := by
  obtain ⟨a1, a2, a3, a4⟩ := ht.nm b hb hU
  cases B with
  | box cs =>
    obtain ⟨hg, cells, p, q1, q2, q3⟩ := h
    obtain ⟨g1, g2⟩ := renL_rep ht (xs := cs) (by simpa [nmB] using hn) (hp.imp id (by simp [NoRB]))
    refine ⟨fun g => hg (a4.1 g), cells, by rw [a2]; exact p, by rw [a3]; exact q1, by omega, fun k y hy => ?_⟩
    obtain ⟨x, hx, g⟩ := g2 k y hy
    exact g _ (q3 k x hx)
  | row st es =>
    rcases h with ⟨hg, he⟩ | ⟨hg, cells, p, q1, q2, q3, q4⟩
    · exact .inl ⟨a4.2 hg, he⟩
    · refine .inr ⟨fun g => hg (a4.1 g), cells, by rw [a2]; exact p, by rw [a3]; exact q1, q2, q3, fun i e k x hi hx => ?_⟩
      rcases hp with hp | hp
      · exact (q4 i e k x hi hx).mono (fun _ _ => rfl) hp
      · exact IsSc.rep (hp e (List.mem_of_getElem? hi) x (List.mem_of_getElem? hx)) (q4 i e k x hi hx)
  | mp es =>
    obtain ⟨hg, ents, cl, p, q1, q2⟩ := h
    refine ⟨fun g => hg (a4.1 g), ents, cl, by rw [a2]; exact p, q1, fun k z x hx => ?_⟩
    obtain ⟨e, e1, e2, e3⟩ := q2 k z x hx
    refine ⟨e, e1, e2, ?_⟩
    rcases hp with hp | hp
    · exact e3.mono (fun _ _ => rfl) hp
    · have hs := hp _ (List.mem_of_getElem? hx)
      unfold RepM at e3 ⊢
      split at e3
      · exact IsSc.rep (hs _ (by simp)) e3
      · obtain ⟨vs, g1, g2, g3⟩ := e3
        exact ⟨vs, g1, g2, fun q c hc => IsSc.rep (hs c (List.mem_of_getElem? hc)) (g3 q c hc)⟩
  | ch cap es shut =>
    obtain ⟨hg, buf, s, r, tm, p, q1, q2⟩ := h
    refine ⟨fun g => hg (a4.1 g), buf, s, r, tm, by rw [a2]; exact p, q1, fun k x hx => ?_⟩
    rcases hp with hp | hp
    · exact (q2 k x hx).mono (fun _ _ => rfl) hp
    · exact IsSc.rep (hp x (List.mem_of_getElem? hx)) (q2 k x hx)

/-- the blocks handed over as such -/
def vPass (bs : List Nat) (H : Nat → Option Block) (σ : Nat → Option Nat) : List Nat → List Block → (List Nat → Prop) → Prop
  | [], [], K => K []
  | b :: l, B :: m, K => match H b, B with
    | some (.row st es), .row st' es' => st = st' ∧ es = es' ∧ vPass bs H σ l m K
    | some (.mp es), .mp es' => es = es' ∧ vPass bs H σ l m K
    | some (.box xs), .box ys => vExpL bs H xs fun zs ns => LeL σ ys zs ∧ vPass bs H σ l m fun ms => K (ns ++ ms)
    | _, _ => False
  | _, _, _ => False
def PassOk (w : World) (E : Emb) (σ : Nat → Option Nat) (ns : List Nat) (b i : Nat) (B : Block) : Prop := ∀ E', (∀ y v, RepA w ((E.frz ns).ren σ) y v → RepA w E' y v) → (∀ r, (E.frz ns).pr r → E'.pr r) → E'.blk i = E.blk b → E'.sz i = E.sz b → (E'.gh i ↔ E.gh b) → RepB w E' i B
theorem vPass_out {bs : List Nat} {H : Nat → Option Block} {σ : Nat → Option Nat} : ∀ {l : List Nat} {m : List Block} {K : List Nat → Prop}, vPass bs H σ l m K → ∃ ns, K ns ∧ (∀ b ∈ ns, (∃ B, H b = some B)) ∧ l.length = m.length ∧ (∀ b ∈ l, ∃ B, H b = some B) ∧
    ∀ (H' : Nat → Option Block), (∀ b ∈ ns, H' b = H b) → (∀ b ∈ l, H' b = H b) → ∀ E w, HInv E H' w → ∀ ms, (∀ b ∈ ns, b ∈ ms) → ∀ (i b : Nat) (B : Block), l[i]? = some b → m[i]? = some B → ∀ j, PassOk w E σ ms b j B
  | [], [], K, h => ⟨[], h, by simp, rfl, by simp, fun _ _ _ _ _ _ _ _ i b B hi => by simp at hi⟩
  | b :: l, B :: m, K, h => by
    simp only [vPass] at h
    split at h
    · rename_i st es st' es' hb
      obtain ⟨rfl, rfl, h⟩ := h
      obtain ⟨ns, hk, h1, h2, h3, h4⟩ := vPass_out h
      refine ⟨ns, hk, h1, by simp [h2], fun c hc => ?_, fun H' hH hL E w hi ms hm i c B hci hB => ?_⟩
      · rcases List.mem_cons.1 hc with rfl | hc
        · exact ⟨_, hb⟩
        · exact h3 c hc
      · cases i with
        | zero =>
          simp only [List.getElem?_cons_zero, Option.some.injEq] at hci hB
          subst hci; subst hB
          intro j E' _ hpr e1 e2 e3
          rcases hi.hp b _ ((hL b (by simp)).trans hb) with ⟨hg, he⟩ | ⟨hg, cells, p, q1, q2, q3, q4⟩
          · exact .inl ⟨e3.2 hg, he⟩
          · exact .inr ⟨fun g => hg (e3.1 g), cells, by rw [e1]; exact p, by rw [e2]; exact q1, q2, q3, fun i e k x hi hx => (q4 i e k x hi hx).mono (fun _ _ => rfl) fun r hr => hpr r (.inl hr)⟩
        | succ i => exact h4 H' hH (fun c hc => hL c (by simp [hc])) E w hi ms hm i c B (by simpa using hci) (by simpa using hB)
    · rename_i es es' hb
      obtain ⟨rfl, h⟩ := h
      obtain ⟨ns, hk, h1, h2, h3, h4⟩ := vPass_out h
      refine ⟨ns, hk, h1, by simp [h2], fun c hc => ?_, fun H' hH hL E w hi ms hm i c B hci hB => ?_⟩
      · rcases List.mem_cons.1 hc with rfl | hc
        · exact ⟨_, hb⟩
        · exact h3 c hc
      · cases i with
        | zero =>
          simp only [List.getElem?_cons_zero, Option.some.injEq] at hci hB
          subst hci; subst hB
          intro j E' _ hpr e1 e2 e3
          obtain ⟨hg, ents, cl, p, q1, q2⟩ := hi.hp b _ ((hL b (by simp)).trans hb)
          exact ⟨fun g => hg (e3.1 g), ents, cl, by rw [e1]; exact p, q1, fun k z x hx => by obtain ⟨e, f1, f2, f3⟩ := q2 k z x hx; exact ⟨e, f1, f2, f3.mono (fun _ _ => rfl) fun r hr => hpr r (.inl hr)⟩⟩
        | succ i => exact h4 H' hH (fun c hc => hL c (by simp [hc])) E w hi ms hm i c B (by simpa using hci) (by simpa using hB)
    · rename_i xs ys hb
      obtain ⟨zs, ns0, ⟨hle, h⟩, hn0, g1, g2, g3⟩ := vExpL_out h
      obtain ⟨ns, hk, h1, h2, h3, h4⟩ := vPass_out h
      refine ⟨ns0 ++ ns, hk, fun c hc => (List.mem_append.1 hc).elim (g1 c) (h1 c), by simp [h2], fun c hc => ?_, fun H' hH hL E w hi ms hm i c B hci hB => ?_⟩
      · rcases List.mem_cons.1 hc with rfl | hc
        · exact ⟨_, hb⟩
        · exact h3 c hc
      · cases i with
        | zero =>
          simp only [List.getElem?_cons_zero, Option.some.injEq] at hci hB
          subst hci; subst hB
          intro j E' hE' _ e1 e2 e3
          obtain ⟨hg, cells, p, q1, q2, q3⟩ := hi.hp b _ ((hL b (by simp)).trans hb)
          obtain ⟨l1, l2⟩ := LeL.rep hle (w := w) (E := E.frz ms)
          refine ⟨fun g => hg (e3.1 g), cells, by rw [e1]; exact p, by rw [e2]; exact q1, by omega, fun k y hy => ?_⟩
          obtain ⟨z, hz, hzr⟩ := l2 k y hy
          obtain ⟨x, hx, hxr⟩ := g3 H' (fun c hc => hH c (List.mem_append.2 (.inl hc))) E w hi k z hz
          exact hE' _ _ (hzr _ ((hxr _ (q3 k x hx)).frz_mono fun c hc => hm c (List.mem_append.2 (.inl hc))))
        | succ i => exact h4 H' (fun c hc => hH c (List.mem_append.2 (.inr hc))) (fun c hc => hL c (by simp [hc])) E w hi ms (fun c hc => hm c (List.mem_append.2 (.inr hc))) i c B (by simpa using hci) (by simpa using hB)
    · exact h.elim
end Go.Proofs.YtdjoodbidcncaaaGreatDoor.AW

/- A call, by the callee's contract: the proof of the rule. -/
namespace Go.Proofs.YtdjoodbidcncaaaGreatDoor.AW
open Go

def fnOf : AV → Option (FuncId × List AV × List AV)
  | .cv (.sc (.func (.func f) a b)) => if a.isEmpty && b.isEmpty then some (f, [], []) else none
  | .fn (.func f) fs cs => some (f, fs, cs)
  | _ => none
def mu (bs : List Nat) (k nx : Nat) (c : Nat) : Nat := if c < k then bs.getD c 0 else nx + (c - k)
def wrs (bs NS : List Nat) (k nx m : Nat) (drop : Bool) (Hout : List (Nat × Option Block)) : List (Nat × Option Block) :=
  (if drop then gone NS else []) ++ ((List.range k).map (fun i => (bs.getD i 0, (geth Hout i).map (renB (mu bs k nx)))) ++ (List.range m).map fun j => (nx + j, (geth Hout (k + j)).map (renB (mu bs k nx))))

theorem nodup_inj {α : Type} {l : List α} (h : l.Nodup) {i j : Nat} {hi : i < l.length} {hj : j < l.length} (e : l[i] = l[j]) : i = j := by
  have h := List.pairwise_iff_getElem.1 h
  rcases Nat.lt_trichotomy i j with g | g | g
  · exact absurd e (h i j hi hj g)
  · exact g
  · exact absurd e.symm (h j i hj hi g)
theorem updH_map {H : Nat → Option Block} (g : Nat → Nat) (F : Nat → Option Block) : ∀ (L : List Nat), (∀ i ∈ L, ∀ j ∈ L, g i = g j → i = j) → L.Nodup → ∀ b, (∀ j ∈ L, g j = b → updH H (L.map fun j => (g j, F j)) b = F j) ∧ ((∀ j ∈ L, g j ≠ b) → updH H (L.map fun j => (g j, F j)) b = H b) := by
  intro L
  induction L generalizing H with
  | nil => intro _ _ b; exact ⟨by simp, fun _ => rfl⟩
  | cons i L ih =>
    intro hg hn b
    obtain ⟨h1, h2⟩ := List.nodup_cons.1 hn
    obtain ⟨a1, a2⟩ := ih (H := setH H (g i) (F i)) (fun i hi j hj => hg i (List.mem_cons_of_mem _ hi) j (List.mem_cons_of_mem _ hj)) h2 b
    simp only [List.map_cons, updH]
    refine ⟨fun j hj e => ?_, fun h => ?_⟩
    · rcases List.mem_cons.1 hj with rfl | hj
      · rw [a2 fun j' hj' e' => h1 (hg j' (List.mem_cons_of_mem _ hj') j (List.mem_cons_self ..) (e'.trans e.symm) ▸ hj')]
        simp [setH, e]
      · exact a1 j hj e
    · rw [a2 fun j hj => h j (List.mem_cons_of_mem _ hj)]
      have := h i (List.mem_cons_self ..)
      simp [setH, Ne.symm this]

/-- what the blocks are behind a call -/
theorem wrs_out {H : Nat → Option Block} {bs NS : List Nat} {k nx m : Nat} {drop : Bool} {Hout : List (Nat × Option Block)} (hl : bs.length = k) (hn : bs.Nodup) (hlt : ∀ b ∈ bs, ¬ (nx ≤ b ∧ b < nx + m)) {b : Nat} {B : Block} (h : updH H (wrs bs NS k nx m drop Hout) b = some B) :
    (∃ c B0, c < k + m ∧ mu bs k nx c = b ∧ geth Hout c = some B0 ∧ B = renB (mu bs k nx) B0) ∨ (H b = some B ∧ b ∉ bs ∧ ¬ (nx ≤ b ∧ b < nx + m) ∧ (drop = true → b ∉ NS)) := by
  unfold wrs at h
  rw [updH_app, updH_app] at h
  have gi : ∀ i ∈ List.range k, ∀ j ∈ List.range k, bs.getD i 0 = bs.getD j 0 → i = j := fun i hi j hj e => by
    have hi := List.mem_range.1 hi
    have hj := List.mem_range.1 hj
    have h1 : i < bs.length := by omega
    have h2 : j < bs.length := by omega
    simp only [List.getD, List.getElem?_eq_getElem h1, List.getElem?_eq_getElem h2, Option.getD_some] at e
    exact nodup_inj hn e
  by_cases h1 : nx ≤ b ∧ b < nx + m
  · have := (updH_map (H := updH (updH H (if drop then gone NS else [])) ((List.range k).map fun i => (bs.getD i 0, (geth Hout i).map (renB (mu bs k nx))))) (fun j => nx + j) (fun j => (geth Hout (k + j)).map (renB (mu bs k nx))) (List.range m) (fun i _ j _ e => by omega) List.nodup_range b).1 (b - nx) (List.mem_range.2 (by omega)) (by omega)
    rw [this] at h
    simp only [Option.map_eq_some_iff] at h
    obtain ⟨B0, h2, rfl⟩ := h
    exact .inl ⟨k + (b - nx), B0, by omega, by unfold mu; rw [if_neg (by omega)]; omega, h2, rfl⟩
  · have := (updH_map (H := updH (updH H (if drop then gone NS else [])) ((List.range k).map fun i => (bs.getD i 0, (geth Hout i).map (renB (mu bs k nx))))) (fun j => nx + j) (fun j => (geth Hout (k + j)).map (renB (mu bs k nx))) (List.range m) (fun i _ j _ e => by omega) List.nodup_range b).2 (fun j hj => by have := List.mem_range.1 hj; omega)
    rw [this] at h
    by_cases h2 : b ∈ bs
    · obtain ⟨i, hi, rfl⟩ := List.getElem_of_mem h2
      have := (updH_map (H := updH H (if drop then gone NS else [])) (fun i => bs.getD i 0) (fun i => (geth Hout i).map (renB (mu bs k nx))) (List.range k) gi List.nodup_range bs[i]).1 i (List.mem_range.2 (by omega)) (by simp [List.getD, hi])
      rw [this] at h
      simp only [Option.map_eq_some_iff] at h
      obtain ⟨B0, h3, rfl⟩ := h
      exact .inl ⟨i, B0, by omega, by unfold mu; rw [if_pos (by omega)]; simp [List.getD, hi], h3, rfl⟩
    · have := (updH_map (H := updH H (if drop then gone NS else [])) (fun i => bs.getD i 0) (fun i => (geth Hout i).map (renB (mu bs k nx))) (List.range k) gi List.nodup_range b).2 (fun j hj e => h2 (by
        have hj := List.mem_range.1 hj
        have h1 : j < bs.length := by omega
        rw [← e]; simp [List.getD, h1]))
      rw [this] at h
      right
      cases drop with
      | false => exact ⟨by simpa [updH] using h, h2, h1, by simp⟩
      | true =>
        simp only [if_true, updH_gone] at h
        split at h
        · cases h
        · exact ⟨h, h2, h1, fun _ => by assumption⟩

section
variable {C : Ctx} {o : Oper} {N : Nat} {T : Nat → AV} {H : Nat → Option Block}

theorem run_enter {a : Act} {w : World} {x : Operand} {args : Array Operand} {ats : Array TypeId} (ho : o.op = .call { callee := .value x, args := args, argTypes := ats }) {f : FuncId} {fs cs : Array Value} (hx : a.eval x = .func (.func f) fs cs) (hb : Bodied C.P f) :
    (execOp a.eval o).run C.P w = .ok (.enter f (fs ++ args.map a.eval ++ cs)) w ∧ (execOp a.eval o).events C.P w #[] = #[] := by
  obtain ⟨fn, h1, h2, h3⟩ := hb
  simp only [execOp, ho, resolve, hx, Deferred.ofValue]
  have : fn.body.isNone = false := by cases hb : fn.body <;> simp_all
  constructor
  · rw [Sem.run_bind]
    simp only [Sem.run_pure, Result.andThen_ok, invoke, callFunc]
    rw [Sem.run_bind, run_program]
    simp only [Result.andThen_ok, h1, h2]
    simp [this]
  · rw [Sem.events_bind]
    simp only [Sem.run_pure, Sem.events_pure, Result.evThen_ok, invoke, callFunc]
    rw [Sem.events_bind, run_program]
    simp only [Result.evThen_ok, h1, h2, events_program]
    simp [this]

/-- an operation that enters a function -/
def Enters (C : Ctx) (o : Oper) (N : Nat) (T : Nat → AV) (f : FuncId) (xs : List AV) : Prop := ∀ (T' : Nat → AV), (∀ x ∈ o.op.operands, ev T' x = ev T x) → ∀ E (a : Act) w, TInv N E T' a w → Bodied C.P f →
  ∃ VS : Array Value, (∀ w₁, (execOp a.eval o).run C.P w₁ = .ok (.enter f VS) w₁ ∧ (execOp a.eval o).events C.P w₁ #[] = #[]) ∧ VS.toList.length = xs.length ∧ ∀ (k : Nat) (y : AV), xs[k]? = some y → RepA w E y (VS.toList.getD k undef)

theorem enters_value {x : Operand} {args : Array Operand} {ats : Array TypeId} (ho : o.op = .call { callee := .value x, args := args, argTypes := ats }) {f : FuncId} {fs cs : List AV} (hfn : fnOf (ev T x) = some (f, fs, cs)) : Enters C o N T f (fs ++ args.toList.map (ev T) ++ cs) := by
  intro T' g1 E a w ht hbod
  have mx : x ∈ o.op.operands := by simp [ho, Op.operands, Call.operands]
  have ma : ∀ y ∈ args, y ∈ o.op.operands := fun y hy => by simp [ho, Op.operands, Call.operands, hy]
  -- the arguments
  obtain ⟨FS, CS, ex, hvl, hvs⟩ : ∃ FS CS : Array Value, a.eval x = .func (.func f) FS CS ∧ (FS ++ args.map a.eval ++ CS).toList.length = (fs ++ args.toList.map (ev T) ++ cs).length ∧
      ∀ (k : Nat) (y : AV), (fs ++ args.toList.map (ev T) ++ cs)[k]? = some y → RepA w E y ((FS ++ args.map a.eval ++ CS).toList.getD k undef) := by
    have rx := rep_at ht (g1 x mx) rfl
    have mid : ∀ (k : Nat) (y : AV), (args.toList.map (ev T))[k]? = some y → RepA w E y ((args.map a.eval).toList.getD k undef) := fun k y hy => by
      simp only [List.getElem?_map, Option.map_eq_some_iff] at hy
      obtain ⟨z, hz, rfl⟩ := hy
      have hz' : args[k]? = some z := by simpa using hz
      have : (args.map a.eval).toList.getD k undef = a.eval z := by simp [List.getD, hz']
      rw [this]
      exact rep_at ht (g1 z (ma z (Array.mem_of_getElem? hz'))) rfl
    have glue : ∀ (FS CS : List Value), FS.length = fs.length → CS.length = cs.length → (∀ (k : Nat) (y : AV), fs[k]? = some y → RepA w E y (FS.getD k undef)) → (∀ (k : Nat) (y : AV), cs[k]? = some y → RepA w E y (CS.getD k undef)) →
        ∀ (k : Nat) (y : AV), (fs ++ args.toList.map (ev T) ++ cs)[k]? = some y → RepA w E y ((FS ++ (args.map a.eval).toList ++ CS).getD k undef) := fun FS CS l1 l2 r1 r2 k y hy => by
      simp only [List.getD]
      rw [List.getElem?_append] at hy
      rw [List.getElem?_append]
      simp only [List.length_append, List.length_map, Array.length_toList, Array.size_map, l1] at hy ⊢
      split at hy
      · rename_i hlt
        rw [if_pos hlt]
        rw [List.getElem?_append] at hy
        rw [List.getElem?_append, l1]
        split at hy
        · rename_i h1; rw [if_pos h1]; exact r1 k y hy
        · rename_i h1; rw [if_neg h1]; exact mid _ y hy
      · rename_i hlt
        rw [if_neg hlt]
        exact r2 _ y hy
    unfold fnOf at hfn
    split at hfn
    · rename_i f' A B hxe
      split at hfn
      · rename_i he
        simp only [Bool.and_eq_true, Array.isEmpty_iff] at he
        obtain ⟨rfl, rfl⟩ := he
        cases hfn
        rw [hxe] at rx
        refine ⟨#[], #[], rep_sc rx, by simp, ?_⟩
        have := glue [] [] rfl rfl (by simp) (by simp)
        simpa using this
      · cases hfn
    · rename_i f' fs' cs' hxe
      cases hfn
      rw [hxe] at rx
      obtain ⟨A, B, hv, hA, hB, hfA, hfB⟩ := rep_fn rx
      refine ⟨A, B, hv, by simp [hA, hB], ?_⟩
      have := glue A.toList B.toList (by simpa using hA) (by simpa using hB) (fun k y hy => by simpa [List.getD, Array.getD_eq_getD_getElem?] using hfA k y hy) (fun k y hy => by simpa [List.getD, Array.getD_eq_getD_getElem?] using hfB k y hy)
      simpa using this
    · cases hfn
  exact ⟨_, fun w₁ => run_enter ho ex hbod, hvl, hvs⟩

/-- a method of a type -/
def Meth (C : Ctx) (t : TypeId) (name : String) (f : FuncId) : Prop := ∀ (v : Value) (w : World), (method (C.P.types.size + Made.depth) t v name).run C.P w = .ok (f, v) w ∧ (method (C.P.types.size + Made.depth) t v name).events C.P w #[] = #[]
theorem meth_mk {t : TypeId} {name : String} {f : FuncId} {p : Bool} {d : TypeDesc} (hu : C.P.underlying t = some d) (hd : (match d, p with | .pointer _, true => true | .pointer _, false => false | _, p => !p) = true)
    (hi : (C.P.info? t).map (fun i => (i.methods.find? (·.name == name)).map fun m => (m.path.toList, m.func)) = some (some ([], some (f, p)))) : Meth C t name f := fun v w => by
  obtain ⟨i, e1, e2⟩ := Option.map_eq_some_iff.1 hi
  obtain ⟨m, e3, e4⟩ := Option.map_eq_some_iff.1 e2
  injection e4 with e4 e5
  rw [show C.P.types.size + Made.depth = (C.P.types.size + (Made.depth - 1)) + 1 from rfl]
  constructor <;> (cases d <;> cases p <;> simp at hd <;> simp [method, typeInfo, e1, e3, e4, e5, follow, receiverAt, run_underlying hu, Place.get])
def ifcOf : AV → Option (TypeId × AV)
  | .ifc t v => some (t, v)
  | .cv (.ifc t c) => some (t, .cv c)
  | _ => none
theorem enters_invoke {x : Operand} {name : String} {args : Array Operand} {ats : Array TypeId} (ho : o.op = .call { callee := .invoke x name, args := args, argTypes := ats }) {t : TypeId} {v : AV} (hx : ifcOf (ev T x) = some (t, v)) {f : FuncId} (hm : Meth C t name f) : Enters C o N T f (v :: args.toList.map (ev T)) := by
  intro T' g1 E a w ht hbod
  have mx : x ∈ o.op.operands := by simp [ho, Op.operands, Call.operands]
  have ma : ∀ y ∈ args, y ∈ o.op.operands := fun y hy => by simp [ho, Op.operands, Call.operands, hy]
  obtain ⟨u, eu, hu⟩ : ∃ u, a.eval x = .iface t u ∧ RepA w E v u := by
    have rx := rep_at ht (g1 x mx) rfl
    unfold ifcOf at hx
    split at hx
    · rename_i e; cases hx; rw [e] at rx; exact rep_ifc rx
    · rename_i e; cases hx; rw [e] at rx
      generalize a.eval x = z at rx
      cases rx with | cv _ _ h => cases h with | ifc _ _ v h => exact ⟨v, rfl, .cv _ _ h⟩
    · cases hx
  refine ⟨#[u] ++ args.map a.eval, ?_, by simp, fun k y hy => ?_⟩
  · intro w
    obtain ⟨fn, h1, h2, h3⟩ := hbod
    have hbn : fn.body.isNone = false := by cases hb : fn.body <;> simp_all
    rw [show execOp a.eval o = (do let d ← resolve a.eval { callee := .invoke x name, args := args, argTypes := ats } o.type; Go.invoke d.target d.args) by unfold execOp; rw [ho]]
    simp only [resolve, eu]
    have e0 : (#[Value.iface t u] ++ args.map a.eval)[0]? = some (.iface t u) := by rw [Array.getElem?_append_left Nat.zero_lt_one]; rfl
    have e1 : (#[Value.iface t u] ++ args.map a.eval).extract 1 (#[Value.iface t u] ++ args.map a.eval).size = args.map a.eval := by
      apply Array.ext'; simp [List.take_of_length_le]
    constructor
    · rw [Sem.run_bind]
      simp only [Sem.run_pure, Result.andThen_ok, Go.invoke]
      simp only [e0, e1, callMethod]
      rw [Sem.run_bind, run_program]
      simp only [Result.andThen_ok]
      rw [Sem.run_bind, (hm u w).1]
      simp only [Result.andThen_ok, callFunc]
      rw [Sem.run_bind, run_program]
      simp only [Result.andThen_ok, h1, h2]
      simp [hbn]
    · rw [Sem.events_bind]
      simp only [Sem.run_pure, Sem.events_pure, Result.evThen_ok, Go.invoke]
      simp only [e0, e1, callMethod]
      rw [Sem.events_bind, run_program]
      simp only [Result.evThen_ok, events_program]
      rw [Sem.events_bind, (hm u w).1]
      simp only [Result.evThen_ok, callFunc, (hm u w).2]
      rw [Sem.events_bind, run_program]
      simp only [Result.evThen_ok, events_program, h1, h2]
      simp [hbn]
  · cases k with
    | zero => simp only [List.getElem?_cons_zero, Option.some.injEq] at hy; subst hy; simpa [List.getD] using hu
    | succ k =>
      simp only [List.getElem?_cons_succ, List.getElem?_map, Option.map_eq_some_iff] at hy
      obtain ⟨z, hz, rfl⟩ := hy
      have hz' : args[k]? = some z := by simpa using hz
      have : (#[u] ++ args.map a.eval).toList.getD (k + 1) undef = a.eval z := by simp [List.getD, hz']
      rw [this]
      exact rep_at ht (g1 z (ma z (Array.mem_of_getElem? hz'))) rfl

set_option maxHeartbeats 2000000 in
theorem call_gen {nx : Nat} {K : Eff → Prop} {f : FuncId} {xs : List AV} (hent : Enters C o N T f xs)
    {args' : List AV} {Hin : List Block} {res : AV} {Hout : List (Nat × Option Block)} (S : Spec C f args' Hin res Hout) {bs : List Nat} {m : Nat} {drop : Bool}
    (hnd : decide bs.Nodup = true) {ys : List AV} {ns : List Nat} (hexp : ExpOkL bs H xs ys ns) (hle : LeL (fun i => bs[i]?) args' ys)
    (h : vPass bs H (fun i => bs[i]?) bs Hin fun ms => ck ((ns ++ ms).all (fun b => !bs.contains b) && (nmA (Hin.length + m) res && nmH (Hin.length + m) Hout)) <| (drop = true ∨ NoR res ∧ NoRH Hout) ∧
      K ⟨renA (mu bs Hin.length nx) res, wrs bs (ns ++ ms) Hin.length nx m drop Hout, List.range' nx m, bs ++ (ns ++ ms)⟩) : Does C o N T H nx K := by
  have hnd : bs.Nodup := by simpa using hnd
  obtain ⟨x1, x2, x3⟩ := hexp
  obtain ⟨ms, h, p1, p2, p3, p4⟩ := vPass_out h
  replace h := ck_out h
  obtain ⟨hck, hdr, hk⟩ := h
  simp only [Bool.and_eq_true, List.all_eq_true, Bool.not_eq_true', List.contains_eq_mem, decide_eq_false_iff_not] at hck
  obtain ⟨hNS, hnmA, hnmH⟩ := hck
  refine ⟨_, fun T' H' g1 g2 fn E a w x Kk ht hh hok hf hnext => ?_, by simp, hk⟩
  obtain ⟨VS, hop, hvl, hvs⟩ := hent T' g1 E a w ht S.bod
  have hlive : ∀ b ∈ bs, ∃ B, H' b = some B := fun b hb => by
    obtain ⟨B, hB⟩ := p3 b hb
    exact ⟨B, (g2 b (List.mem_append.2 (.inl hb))).trans hB⟩
  have hliveN : ∀ b ∈ ns ++ ms, ∃ B, H' b = some B := fun b hb => by
    have : ∃ B, H b = some B := (List.mem_append.1 hb).elim (x1 b) (p1 b)
    obtain ⟨B, hB⟩ := this
    exact ⟨B, (g2 b (List.mem_append.2 (.inr hb))).trans hB⟩
  have hbU : ∀ b ∈ bs, E.U b := fun b hb => (hlive b hb).elim fun B hB => (hh.un b B hB).1
  have hnew : ∀ b, (nx ≤ b ∧ b < nx + m) → ¬ E.U b := fun b hb => hf b (by simp only [List.mem_range']; exact ⟨b - nx, by omega, by omega⟩)
  have hbs_new : ∀ b ∈ bs, ¬ (nx ≤ b ∧ b < nx + m) := fun b hb hn => hnew b hn (hbU b hb)
  -- the callee's state
  let σ : Nat → Option Nat := fun i => bs[i]?
  let Ec : Emb := { (E.frz (ns ++ ms)).ren σ with fr := fun r => r < w.heap.size ∧ ∀ b ∈ bs, ¬ E.gh b → r ≠ E.blk b }
  have toEc : ∀ {y : AV} {v : Value}, RepA w ((E.frz (ns ++ ms)).ren σ) y v → RepA w Ec y v := fun hr => RepA.mono (E := (E.frz (ns ++ ms)).ren σ) (E' := Ec) (fun _ _ => rfl) (fun _ h => h) (fun _ h => ⟨h, rfl, rfl, .rfl⟩) hr
  have blkc : ∀ {i b}, bs[i]? = some b → Ec.blk i = E.blk b ∧ Ec.sz i = E.sz b ∧ (Ec.gh i ↔ E.gh b) := fun {i b} hb => by
    refine ⟨by simp [Ec, Emb.ren, σ, hb, Emb.frz], by simp [Ec, Emb.ren, σ, hb, Emb.frz], ⟨fun ⟨y, e, g⟩ => by simp only [σ] at e; rw [hb] at e; cases e; exact g, fun g => ⟨b, hb, g⟩⟩⟩
  have frE : ∀ r, E.fr r → Ec.fr r := fun r hr => ⟨hh.frlt r hr, fun b hb hg e => by
    obtain ⟨B, hB⟩ := hlive b hb
    exact (hh.un b B hB).2 hg (e ▸ hr)⟩
  have prEc : ∀ r, Ec.pr r → Ec.fr r := fun r hr => by
    rcases hr with hr | ⟨c, hc, hg, e⟩
    · exact frE r (hh.prfr r hr)
    · obtain ⟨X, hX⟩ := hliveN c hc
      refine ⟨e ▸ hh.lt hX hg, fun b hb hgb e2 => ?_⟩
      obtain ⟨B, hB⟩ := hlive b hb
      have := hh.inj c b X B hX hB hg hgb (e ▸ e2)
      exact hNS c hc (this ▸ hb)
  have hhc : HInv Ec (hin Hin) w := by
    refine ⟨fun i B hB => ?_, fun i B hB => ?_, fun i j B D hB hD gi gj e => ?_, prEc, fun r hr => hr.1⟩
    · have hi : i < bs.length := by rw [p2]; exact (List.getElem?_eq_some_iff.1 hB).1
      obtain ⟨e1, e2, e3⟩ := blkc (List.getElem?_eq_getElem hi)
      exact p4 H' (fun b hb => g2 b (List.mem_append.2 (.inr (List.mem_append.2 (.inr hb))))) (fun b hb => g2 b (List.mem_append.2 (.inl hb))) E w hh (ns ++ ms) (fun b hb => List.mem_append.2 (.inr hb)) i bs[i] B (List.getElem?_eq_getElem hi) hB i Ec (fun y v => toEc) (fun _ h => h) e1 e2 e3
    · have hi : i < bs.length := by rw [p2]; exact (List.getElem?_eq_some_iff.1 hB).1
      obtain ⟨e1, e2, e3⟩ := blkc (List.getElem?_eq_getElem hi)
      exact ⟨⟨bs[i], List.getElem?_eq_getElem hi, hbU _ (List.getElem_mem hi)⟩, fun hg hfr => hfr.2 bs[i] (List.getElem_mem hi) (fun g => hg (e3.2 g)) e1⟩
    · have hi : i < bs.length := by rw [p2]; exact (List.getElem?_eq_some_iff.1 hB).1
      have hj : j < bs.length := by rw [p2]; exact (List.getElem?_eq_some_iff.1 hD).1
      obtain ⟨e1, e2, e3⟩ := blkc (List.getElem?_eq_getElem hi)
      obtain ⟨f1, f2, f3⟩ := blkc (List.getElem?_eq_getElem hj)
      obtain ⟨X, hX⟩ := hlive bs[i] (List.getElem_mem hi)
      obtain ⟨Y, hY⟩ := hlive bs[j] (List.getElem_mem hj)
      have := hh.inj _ _ X Y hX hY (fun g => gi (e3.2 g)) (fun g => gj (f3.2 g)) (by rw [← e1, ← f1]; exact e)
      exact nodup_inj hnd this
  have hUc : ∀ b, Ec.U b ↔ b < Hin.length := fun b => by
    constructor
    · rintro ⟨y, e, _⟩; rw [← p2]; exact (List.getElem?_eq_some_iff.1 e).1
    · intro hb
      have hi : b < bs.length := by omega
      exact ⟨bs[b], List.getElem?_eq_getElem hi, hbU _ (List.getElem_mem hi)⟩
  obtain ⟨le1, le2⟩ := LeL.rep hle (w := w) (E := E.frz (ns ++ ms))
  have hextc : Ext (fun _ => False) E w Ec w := ⟨fun _ _ => rfl, frE, fun _ h => .inl h, Nat.le_refl _, fun _ h => h.elim, fun b hb hg => by
      obtain ⟨y, e, hy⟩ := hb
      obtain ⟨e1, _, e3⟩ := blkc e
      exact .inr ⟨y, hy, fun g => hg (e3.2 g), e1⟩, fun r hr => by
      rcases hr with hr | ⟨c, hc, hg, e⟩
      · exact .inl hr
      · obtain ⟨X, hX⟩ := hliveN c hc
        exact .inr (.inr ⟨c, (hh.un c X hX).1, hg, e⟩), ⟨rfl, rfl, rfl⟩⟩
  have hrun := S.run Ec w x VS.toList (by rw [hvl, ← x2, ← le1]) (fun k y hy => by
    obtain ⟨z, hz, hzr⟩ := le2 k y hy
    obtain ⟨q, hq, hqr⟩ := x3 H' (fun b hb => g2 b (List.mem_append.2 (.inr (List.mem_append.2 (.inl hb))))) E w hh k z hz
    exact toEc (hzr _ ((hqr _ (hvs k q hq)).frz_mono fun b hb => List.mem_append.2 (.inl hb)))) hhc hUc (C.sound.okExt hok hextc)
  rw [Array.toArray_toList] at hrun
  refine C.sound.opCall (fun w₁ hrel => ⟨(hop w₁).1, ?_⟩) hrun fun v w' x' hpost => ?_
  · obtain ⟨hheap, hio⟩ := C.sound.rel hrel
    exact C.sound.evSub (C.sound.okEv (es := #[]) (C.sound.okExt hok (hh.same hheap hio).2) (w' := w₁) (.nil rfl)) fun e he => by have := seen_sub e he; rwa [(hop w₁).2] at this
  obtain ⟨E1, hr, hh1, hx, hok1, hle1⟩ := hpost
  -- the caller's state behind the call
  let isN : Nat → Prop := fun b => nx ≤ b ∧ b < nx + m
  let μ := mu bs Hin.length nx
  classical
  let E' : Emb := { blk := fun b => if isN b then E1.blk (b - nx + Hin.length) else E.blk b, sz := fun b => if isN b then E1.sz (b - nx + Hin.length) else E.sz b, U := fun b => E.U b ∨ isN b, gh := fun b => if isN b then (E1.gh (b - nx + Hin.length) ∨ ¬ E1.U (b - nx + Hin.length)) else E.gh b, pr := fun r => E.pr r ∨ (drop = true ∧ E1.pr r), fr := fun r => E.fr r ∨ (drop = true ∧ E1.pr r) }
  have oldn : ∀ b, E.U b → E'.U b ∧ E'.blk b = E.blk b ∧ E'.sz b = E.sz b ∧ (E'.gh b ↔ E.gh b) := fun b hb => by
    have : ¬ isN b := fun h => hnew b h hb
    exact ⟨.inl hb, by simp [E', this], by simp [E', this], by simp [E', this]⟩
  have newn : ∀ c, Hin.length ≤ c → c < Hin.length + m → E1.U c → E'.U (μ c) ∧ E'.blk (μ c) = E1.blk c ∧ E'.sz (μ c) = E1.sz c ∧ (E'.gh (μ c) ↔ E1.gh c) := fun c h1 h2 hU => by
    have e : μ c = nx + (c - Hin.length) := by simp only [μ, mu]; rw [if_neg (by omega)]
    have hn : isN (nx + (c - Hin.length)) := ⟨by omega, by omega⟩
    rw [e]
    have e2 : nx + (c - Hin.length) - nx + Hin.length = c := by omega
    exact ⟨.inr hn, by simp only [E', hn, if_true, e2], by simp only [E', hn, if_true, e2], by simp only [E', hn, if_true, e2, hU, not_true_eq_false, or_false]⟩
  have pas : ∀ c, c < Hin.length → ∃ b, bs[c]? = some b ∧ μ c = b ∧ b ∈ bs ∧ E1.blk c = E.blk b ∧ E1.sz c = E.sz b ∧ (E1.gh c ↔ E.gh b) := fun c hc => by
    have hi : c < bs.length := by omega
    obtain ⟨e1, e2, e3⟩ := blkc (List.getElem?_eq_getElem hi)
    obtain ⟨f1, f2, f3⟩ := hx.nm c hc
    exact ⟨bs[c], List.getElem?_eq_getElem hi, by simp only [μ, mu]; rw [if_pos hc]; simp [List.getD, hi], List.getElem_mem hi, f1.trans e1, f2.trans e2, f3.trans e3⟩
  have turn : Turn w' (Hin.length + m) μ E1 E' := ⟨fun c hc hU => by
    by_cases h1 : c < Hin.length
    · obtain ⟨b, hb, e, hbm, e1, e2, e3⟩ := pas c h1
      obtain ⟨o1, o2, o3, o4⟩ := oldn b (hbU b hbm)
      rw [e]
      exact ⟨o1, o2.trans e1.symm, o3.trans e2.symm, o4.trans e3.symm⟩
    · exact newn c (by omega) hc hU⟩
  have hprd : ∀ {Z : Prop}, (drop = true ∨ Z) → (∀ r, E1.pr r → E'.pr r) ∨ Z := fun h => h.imp (fun hd r hr => .inr ⟨hd, hr⟩) id
  have live : ∀ b B, updH H' (wrs bs (ns ++ ms) Hin.length nx m drop Hout) b = some B → (∃ c B0, c < Hin.length + m ∧ μ c = b ∧ geth Hout c = some B0 ∧ B = renB μ B0) ∨ (H' b = some B ∧ b ∉ bs ∧ ¬ isN b ∧ (drop = true → b ∉ ns ++ ms)) :=
    fun b B hB => wrs_out p2 hnd hbs_new hB
  -- a block that was not handed over stays
  have apart : ∀ b B, H' b = some B → ¬ E.gh b → b ∉ bs → Ec.fr (E.blk b) := fun b B hB hg hb => ⟨hh.lt hB hg, fun c hc hgc e => by
    obtain ⟨D, hD⟩ := hlive c hc
    exact hb (hh.inj b c B D hB hD hg hgc e ▸ hc)⟩
  have E1blk : ∀ c, E1.U c → ¬ E1.gh c → ∀ b B, H' b = some B → ¬ E.gh b → b ∉ bs → E1.blk c ≠ E.blk b := fun c hU hg b B hB hgb hb e => by
    rcases hx.un c hU hg with h1 | ⟨d, h1, h2, h3⟩
    · have := hh.lt hB hgb; omega
    · obtain ⟨y, hy, _⟩ := h1
      obtain ⟨e1, _, e3⟩ := blkc hy
      have hym : y ∈ bs := List.mem_of_getElem? hy
      obtain ⟨D, hD⟩ := hlive y hym
      have := hh.inj b y B D hB hD hgb (fun g => h2 (e3.2 g)) (by rw [← e, h3, e1])
      exact hb (this ▸ hym)
  have hH : HInv E' (updH H' (wrs bs (ns ++ ms) Hin.length nx m drop Hout)) w' := by
    refine ⟨fun b B hB => ?_, fun b B hB => ?_, fun b d B D hB hD gb gd e => ?_, fun r hr => ?_, fun r hr => ?_⟩
    · rcases live b B hB with ⟨c, B0, hc, rfl, hB0, rfl⟩ | ⟨hB', hb, hn, _⟩
      · exact renB_rep turn hc (hh1.un c B0 hB0).1 (nmH_out hnmH hB0).2 (hprd (hdr.imp id fun h => NoRH.out h.2 hB0)) (hh1.hp c B0 hB0)
      · exact (hh.hp b B hB').mono (E' := E') (fun r hr => hx.keep r (frE r (hh.prfr r hr))) (fun _ h => .inl h) oldn (hh.un b B hB').1 (fun hg => hx.keep _ (apart b B hB' hg hb))
    · rcases live b B hB with ⟨c, B0, hc, rfl, hB0, rfl⟩ | ⟨hB', hb, hn, hd⟩
      · obtain ⟨u, f⟩ := hh1.un c B0 hB0
        obtain ⟨t1, t2, t3, t4⟩ := turn.nm c hc u
        refine ⟨t1, fun hg hfr => ?_⟩
        rw [t2] at hfr
        have := f fun g => hg (t4.2 g)
        rcases hfr with hfr | ⟨_, hfr⟩
        · exact this (hx.fr _ (frE _ hfr))
        · exact this (hh1.prfr _ hfr)
      · obtain ⟨u, f⟩ := hh.un b B hB'
        obtain ⟨t1, t2, t3, t4⟩ := oldn b u
        refine ⟨t1, fun hg hfr => ?_⟩
        rw [t2] at hfr
        have hg' : ¬ E.gh b := fun g => hg (t4.2 g)
        rcases hfr with hfr | ⟨hdt, hfr⟩
        · exact f hg' hfr
        · rcases hx.pn _ hfr with (h1 | ⟨c, hc, hgc, e⟩) | h1 | ⟨c, ⟨y, hy, _⟩, hgc, e⟩
          · exact f hg' (hh.prfr _ h1)
          · obtain ⟨X, hX⟩ := hliveN c hc
            exact hd hdt (hh.inj b c B X hB' hX hg' hgc e ▸ hc)
          · have := hh.lt hB' hg'; omega
          · obtain ⟨e1, _, e3⟩ := blkc hy
            have hym : y ∈ bs := List.mem_of_getElem? hy
            obtain ⟨D, hD⟩ := hlive y hym
            exact hb (hh.inj b y B D hB' hD hg' (fun g => hgc (e3.2 g)) (by rw [e, e1]) ▸ hym)
    · rcases live b B hB with ⟨c, B0, hc, rfl, hB0, rfl⟩ | ⟨hB', hb, hn, hdb⟩ <;> rcases live d D hD with ⟨c', D0, hc', rfl, hD0, rfl⟩ | ⟨hD', hd, hn', hdd⟩
      · obtain ⟨t1, t2, t3, t4⟩ := turn.nm c hc (hh1.un c B0 hB0).1
        obtain ⟨s1, s2, s3, s4⟩ := turn.nm c' hc' (hh1.un c' D0 hD0).1
        rw [hh1.inj c c' B0 D0 hB0 hD0 (fun g => gb (t4.2 g)) (fun g => gd (s4.2 g)) (by rw [← t2, ← s2]; exact e)]
      · obtain ⟨t1, t2, t3, t4⟩ := turn.nm c hc (hh1.un c B0 hB0).1
        obtain ⟨s1, s2, s3, s4⟩ := oldn d (hh.un d D hD').1
        exact absurd (by rw [← t2, ← s2]; exact e) (E1blk c (hh1.un c B0 hB0).1 (fun g => gb (t4.2 g)) d D hD' (fun g => gd (s4.2 g)) hd)
      · obtain ⟨t1, t2, t3, t4⟩ := turn.nm c' hc' (hh1.un c' D0 hD0).1
        obtain ⟨s1, s2, s3, s4⟩ := oldn b (hh.un b B hB').1
        exact absurd (by rw [← t2, ← s2]; exact e.symm) (E1blk c' (hh1.un c' D0 hD0).1 (fun g => gd (t4.2 g)) b B hB' (fun g => gb (s4.2 g)) hb)
      · obtain ⟨s1, s2, s3, s4⟩ := oldn b (hh.un b B hB').1
        obtain ⟨t1, t2, t3, t4⟩ := oldn d (hh.un d D hD').1
        exact hh.inj b d B D hB' hD' (fun g => gb (s4.2 g)) (fun g => gd (t4.2 g)) (by rw [← s2, ← t2]; exact e)
    · exact hr.imp (hh.prfr r) id
    · rcases hr with hr | ⟨_, hr⟩
      · exact Nat.lt_of_lt_of_le (hh.frlt r hr) hx.sz
      · exact hh1.frlt r (hh1.prfr r hr)
  refine hnext v E' w' x' (renA_rep turn hnmA (hprd (hdr.imp id fun h => h.1)) hr) hH (C.sound.okJoin hok hok1 hle1 hx.sz (fun r hr => hh.frlt r (hh.prfr r hr)) (fun r hr => hr.imp id fun h => h.2) (fun b hb hg => ?_) (fun _ h => .inl h) fun _ h => .inl h) hle1 ⟨fun r hr => hx.keep r (frE r hr), fun _ h => .inl h, fun _ h => .inl h, hx.sz, fun b hb => (oldn b hb).2, fun b hb hg => ?_, fun r hr => ?_, hx.io⟩ (fun b => ?_)
  · by_cases hn : isN b
    · simp only [E', hn, if_true] at hg ⊢
      exact .inr ⟨_, Classical.byContradiction fun h => hg (.inr h), fun g => hg (.inl g), rfl⟩
    · simp only [E', hn, if_false] at hg ⊢
      exact .inl ⟨b, hb.resolve_right hn, hg, rfl⟩
  · by_cases hn : isN b
    · simp only [E', hn, if_true] at hg ⊢
      have hU1 : E1.U (b - nx + Hin.length) := Classical.byContradiction fun h => hg (.inr h)
      rcases hx.un _ hU1 (fun g => hg (.inl g)) with h1 | ⟨d, ⟨y, hy, _⟩, h2, h3⟩
      · exact .inl h1
      · obtain ⟨e1, _, e3⟩ := blkc hy
        exact .inr ⟨y, hbU y (List.mem_of_getElem? hy), fun g => h2 (e3.2 g), h3.trans e1⟩
    · simp only [E', hn, if_false] at hg ⊢
      exact .inr ⟨b, hb.resolve_right hn, hg, rfl⟩
  · rcases hr with hr | ⟨_, hr⟩
    · exact .inl hr
    · rcases hx.pn r hr with (h1 | ⟨c, hc, hgc, e⟩) | h1 | ⟨c, ⟨y, hy, _⟩, hgc, e⟩
      · exact .inl h1
      · obtain ⟨X, hX⟩ := hliveN c hc
        exact .inr (.inr ⟨c, (hh.un c X hX).1, hgc, e⟩)
      · exact .inr (.inl h1)
      · obtain ⟨e1, _, e3⟩ := blkc hy
        exact .inr (.inr ⟨y, hbU y (List.mem_of_getElem? hy), fun g => hgc (e3.2 g), e.trans e1⟩)
  · simp only [E', isN, List.mem_range']
    constructor
    · rintro (h | h)
      · exact .inl h
      · exact .inr ⟨b - nx, by omega, by omega⟩
    · rintro (h | ⟨i, h1, h2⟩)
      · exact .inl h
      · exact .inr (by omega)

/-- a call whose arguments are told as they are handed over: the contract is still to be named -/
@[irreducible] def CallW (C : Ctx) (f : FuncId) (bs : List Nat) (ys : List AV) (ns : List Nat) (H : Nat → Option Block) (nx : Nat) (K : Eff → Prop) : Prop :=
  ∃ (args' : List AV) (Hin : List Block) (res : AV) (Hout : List (Nat × Option Block)) (m : Nat) (drop : Bool), Spec C f args' Hin res Hout ∧ LeL (fun i => bs[i]?) args' ys ∧ vPass bs H (fun i => bs[i]?) bs Hin fun ms =>
    ck ((ns ++ ms).all (fun b => !bs.contains b) && (nmA (Hin.length + m) res && nmH (Hin.length + m) Hout)) <| (drop = true ∨ NoR res ∧ NoRH Hout) ∧
    K ⟨renA (mu bs Hin.length nx) res, wrs bs (ns ++ ms) Hin.length nx m drop Hout, List.range' nx m, bs ++ (ns ++ ms)⟩
theorem call_go {nx : Nat} {K : Eff → Prop} {x : Operand} {args : Array Operand} {ats : Array TypeId} (ho : o.op = .call { callee := .value x, args := args, argTypes := ats }) {f : FuncId} {fs cs : List AV} (hfn : fnOf (ev T x) = some (f, fs, cs)) (bs : List Nat)
    (h : ck (decide bs.Nodup) <| vExpL bs H (fs ++ args.toList.map (ev T) ++ cs) fun ys ns => CallW C f bs ys ns H nx K) : CallVC C o N T H nx K := by
  unfold CallVC
  -- the contract is the one that was named
  obtain ⟨hnd, h⟩ := ck_out h
  obtain ⟨ys, ns, h, h2, h3⟩ := vExpL_out h
  unfold CallW at h
  obtain ⟨args', Hin, res, Hout, m, drop, S, hle, h⟩ := h
  exact call_gen (enters_value ho hfn) S hnd h3 hle h
/-- a method's call -/
theorem call_inv {nx : Nat} {K : Eff → Prop} {x : Operand} {name : String} {args : Array Operand} {ats : Array TypeId} (ho : o.op = .call { callee := .invoke x name, args := args, argTypes := ats }) {t : TypeId} {v : AV} (hx : ifcOf (ev T x) = some (t, v)) {f : FuncId} (hm : Meth C t name f) (bs : List Nat)
    (h : ck (decide bs.Nodup) <| vExpL bs H (v :: args.toList.map (ev T)) fun ys ns => CallW C f bs ys ns H nx K) : CallVC C o N T H nx K := by
  unfold CallVC
  obtain ⟨hnd, h⟩ := ck_out h
  obtain ⟨ys, ns, h, h2, h3⟩ := vExpL_out h
  unfold CallW at h
  obtain ⟨args', Hin, res, Hout, m, drop, S, hle, h⟩ := h
  exact call_gen (enters_invoke ho hx hm) S hnd h3 hle h
theorem callW {f : FuncId} {bs : List Nat} {ys : List AV} {ns : List Nat} {nx : Nat} {K : Eff → Prop} {args' : List AV} {Hin : List Block} {res : AV} {Hout : List (Nat × Option Block)} (S : Spec C f args' Hin res Hout) (m : Nat) (drop : Bool) (hle : LeL (fun i => bs[i]?) args' ys)
    (h : vPass bs H (fun i => bs[i]?) bs Hin fun ms => ck ((ns ++ ms).all (fun b => !bs.contains b) && (nmA (Hin.length + m) res && nmH (Hin.length + m) Hout)) <| (drop = true ∨ NoR res ∧ NoRH Hout) ∧
      K ⟨renA (mu bs Hin.length nx) res, wrs bs (ns ++ ms) Hin.length nx m drop Hout, List.range' nx m, bs ++ (ns ++ ms)⟩) : CallW C f bs ys ns H nx K := by
  unfold CallW; exact ⟨args', Hin, res, Hout, m, drop, S, hle, h⟩
theorem LeC.self : ∀ c, LeC c c
  | .sc _ => rfl
  | .ro .. => ⟨rfl, rfl, .inr rfl⟩
  | .rp _ => rfl
  | .ifc .. => rfl
mutual
theorem LeA.self {ρ : Nat → Option Nat} : ∀ {x : AV}, nmA 0 x = true → LeA ρ x x
  | .any, _ => by simp [LeA]
  | .cv c, _ => by simp only [LeA]; exact LeC.self c
  | .ptr .., h => by simp [nmA] at h
  | .own .., h => by simp [nmA] at h
  | .mp .., h => by simp [nmA] at h
  | .ch .., h => by simp [nmA] at h
  | .agg cs, h => by simp only [LeA]; exact LeL.self h
  | .tup cs, h => by simp only [LeA]; exact LeL.self h
  | .ifc t v, h => by simp only [LeA]; exact ⟨trivial, LeA.self h⟩
  | .fn f fs cs, h => by simp only [nmA, Bool.and_eq_true] at h; simp only [LeA]; exact ⟨trivial, LeL.self h.1, LeL.self h.2⟩
theorem LeL.self {ρ : Nat → Option Nat} : ∀ {l : List AV}, nmL 0 l = true → LeL ρ l l
  | [], _ => by simp [LeL]
  | x :: l, h => by simp only [nmL, Bool.and_eq_true] at h; simp only [LeL]; exact ⟨LeA.self h.1, LeL.self h.2⟩
end
/-- the plainest call: closed arguments, no block comes or goes -/
theorem callW0 {f : FuncId} {ys : List AV} {ns : List Nat} {nx : Nat} {K : Eff → Prop} {res : AV} (S : Spec C f ys [] res []) (hc : nmL 0 ys = true) (hn : NoR res)
    (h : ck (nmA 0 res) <| K ⟨renA (mu [] 0 nx) res, [], [], ns⟩) : CallW C f [] ys ns H nx K := by
  obtain ⟨h1, h2⟩ := ck_out h
  refine callW S 0 false (LeL.self hc) ?_
  simp only [vPass]
  refine ck_in ⟨by simp [h1, nmH], .inr ⟨hn, trivial⟩, ?_⟩
  simpa [wrs] using h2
/-- less is told of the arguments than is there -/
theorem callWl {f : FuncId} {ys : List AV} {ns : List Nat} {nx : Nat} {K : Eff → Prop} {args' : List AV} {res : AV} (S : Spec C f args' [] res []) (hn : NoR res) (hle : LeL (fun i => ([] : List Nat)[i]?) args' ys)
    (h : ck (nmA 0 res) <| K ⟨renA (mu [] 0 nx) res, [], [], ns⟩) : CallW C f [] ys ns H nx K := by
  obtain ⟨h1, h2⟩ := ck_out h
  refine callW S 0 false hle ?_
  simp only [vPass]
  refine ck_in ⟨by simp [h1, nmH], .inr ⟨hn, trivial⟩, ?_⟩
  simpa [wrs] using h2
/-- blocks are handed over, none comes -/
theorem callWp {bs : List Nat} {f : FuncId} {ys : List AV} {ns : List Nat} {nx : Nat} {K : Eff → Prop} {args' : List AV} {Hin : List Block} {res : AV} {Hout : List (Nat × Option Block)} (S : Spec C f args' Hin res Hout) (hle : LeL (fun i => bs[i]?) args' ys)
    (h : vPass bs H (fun i => bs[i]?) bs Hin fun ms => ck ((ns ++ ms).all (fun b => !bs.contains b) && (nmA (Hin.length + 0) res && nmH (Hin.length + 0) Hout)) <| K ⟨renA (mu bs Hin.length nx) res, wrs bs (ns ++ ms) Hin.length nx 0 true Hout, [], bs ++ (ns ++ ms)⟩) : CallW C f bs ys ns H nx K := by
  refine callW S 0 true hle ?_
  simpa using h
/-- arguments without names; m blocks come, and what was handed over is gone -/
theorem callWm {f : FuncId} {ys : List AV} {ns : List Nat} {nx : Nat} {K : Eff → Prop} {res : AV} {Hout : List (Nat × Option Block)} (S : Spec C f ys [] res Hout) (m : Nat) (hc : nmL 0 ys = true)
    (h : ck (nmA m res && nmH m Hout) <| K ⟨renA (mu [] 0 nx) res, wrs [] ns 0 nx m true Hout, List.range' nx m, ns⟩) : CallW C f [] ys ns H nx K := by
  obtain ⟨h1, h2⟩ := ck_out h
  refine callW S m true (LeL.self hc) ?_
  simp only [vPass, List.length_nil, Nat.zero_add, List.append_nil, List.nil_append]
  refine ck_in ⟨by simpa using h1, .inl trivial, ?_⟩
  simpa using h2
end
end Go.Proofs.YtdjoodbidcncaaaGreatDoor.AW

/- The types of this seat's program. -/
namespace Go.Proofs.YtdjoodbidcncaaaGreatDoor.AW
open Go
inductive TT where
  | leaf
  | node (l : TT) (k : Nat) (v : TI) (r : TT)
theorem info_of {P : Program} {t : TypeId} {i : TypeInfo} (h : P.types[t]? = some i) : P.info? t = some i := by
  have : t < P.types.size := (Array.getElem?_eq_some_iff.1 h).1
  simp only [Tables.info?]
  rw [if_pos this]; exact h
def TT.find : TT → Nat → Option TI
  | .leaf, _ => none
  | .node l k v r, t => match Nat.beq t k with
    | true => some v
    | false => match Nat.blt t k with
      | true => l.find t
      | false => r.find t
def TT.All (P : Nat → TI → Prop) : TT → Prop
  | .leaf => True
  | .node l k v r => l.All P ∧ P k v ∧ r.All P
theorem TT.find_all {P : Nat → TI → Prop} : ∀ {s : TT} {t : Nat} {i : TI}, s.All P → s.find t = some i → P t i
  | .leaf, _, _, _, h => by cases h
  | .node l k v r, t, i, ha, h => by
    simp only [TT.find] at h
    split at h
    · rename_i e
      have := Nat.eq_of_beq_eq_true e
      cases h; subst this; exact ha.2.1
    · split at h
      · exact TT.find_all ha.1 h
      · exact TT.find_all ha.2.2 h
def ty2 : TI := ⟨false, 1, 8, .int .i64, [(.int .i64 0)]⟩
theorem ty2_ok : TIok Tryz.prog 2 ty2 := ⟨⟨_, info_of Tryz.type2, rfl, rfl, _, rfl, ⟨_, rfl, rfl, rfl⟩⟩, ⟨_, Tryz.underlying2, rfl, rfl⟩, rfl, rfl⟩
def ty3 : TI := ⟨false, 1, 8, .int .i64, [(.int .i64 0)]⟩
theorem ty3_ok : TIok Tryz.prog 3 ty3 := ⟨⟨_, info_of Tryz.type3, rfl, rfl, _, rfl, ⟨_, rfl, rfl, rfl⟩⟩, ⟨_, Tryz.underlying3, rfl, rfl⟩, rfl, rfl⟩
def ty4 : TI := ⟨false, 1, 1, .bool, [(.bool false)]⟩
theorem ty4_ok : TIok Tryz.prog 4 ty4 := ⟨⟨_, info_of Tryz.type4, rfl, rfl, _, rfl, ⟨_, rfl, rfl, rfl⟩⟩, ⟨_, Tryz.underlying4, rfl, rfl⟩, rfl, rfl⟩
def ty5 : TI := ⟨false, 1, 1, .int .u8, [(.int .u8 0)]⟩
theorem ty5_ok : TIok Tryz.prog 5 ty5 := ⟨⟨_, info_of Tryz.type5, rfl, rfl, _, rfl, ⟨_, rfl, rfl, rfl⟩⟩, ⟨_, Tryz.underlying5, rfl, rfl⟩, rfl, rfl⟩
def ty6 : TI := ⟨false, 1, 1, .int .u8, [(.int .u8 0)]⟩
theorem ty6_ok : TIok Tryz.prog 6 ty6 := ⟨⟨_, info_of Tryz.type6, rfl, rfl, _, rfl, ⟨_, rfl, rfl, rfl⟩⟩, ⟨_, Tryz.underlying6, rfl, rfl⟩, rfl, rfl⟩
def ty7 : TI := ⟨true, 4, 24, .strct [(0, 2), (1, 3), (2, 4), (3, 6)], [(.int .i64 0), (.int .i64 0), (.bool false), (.int .u8 0)]⟩
theorem ty7_ok : TIok Tryz.prog 7 ty7 := ⟨⟨_, info_of Tryz.type7, rfl, rfl, _, rfl, rfl⟩, ⟨_, Tryz.underlying7, rfl, ⟨_, rfl, rfl⟩⟩, rfl, rfl⟩
def ty8 : TI := ⟨true, 4, 24, .strct [(0, 2), (1, 3), (2, 4), (3, 6)], [(.int .i64 0), (.int .i64 0), (.bool false), (.int .u8 0)]⟩
theorem ty8_ok : TIok Tryz.prog 8 ty8 := ⟨⟨_, info_of Tryz.type8, rfl, rfl, _, rfl, rfl⟩, ⟨_, Tryz.underlying8, rfl, ⟨_, rfl, rfl⟩⟩, rfl, rfl⟩
def ty9 : TI := ⟨false, 1, 16, .str, [(.string .empty)]⟩
theorem ty9_ok : TIok Tryz.prog 9 ty9 := ⟨⟨_, info_of Tryz.type9, rfl, rfl, _, rfl, ⟨_, rfl, rfl, rfl⟩⟩, ⟨_, Tryz.underlying9, rfl, rfl⟩, rfl, rfl⟩
def ty10 : TI := ⟨false, 1, 16, .str, [(.string .empty)]⟩
theorem ty10_ok : TIok Tryz.prog 10 ty10 := ⟨⟨_, info_of Tryz.type10, rfl, rfl, _, rfl, ⟨_, rfl, rfl, rfl⟩⟩, ⟨_, Tryz.underlying10, rfl, rfl⟩, rfl, rfl⟩
def ty11 : TI := ⟨false, 1, 16, .str, [(.string .empty)]⟩
theorem ty11_ok : TIok Tryz.prog 11 ty11 := ⟨⟨_, info_of Tryz.type11, rfl, rfl, _, rfl, ⟨_, rfl, rfl, rfl⟩⟩, ⟨_, Tryz.underlying11, rfl, rfl⟩, rfl, rfl⟩
def ty12 : TI := ⟨false, 1, 8, .int .u64, [(.int .u64 0)]⟩
theorem ty12_ok : TIok Tryz.prog 12 ty12 := ⟨⟨_, info_of Tryz.type12, rfl, rfl, _, rfl, ⟨_, rfl, rfl, rfl⟩⟩, ⟨_, Tryz.underlying12, rfl, rfl⟩, rfl, rfl⟩
def ty13 : TI := ⟨true, 2, 24, .strct [(0, 9), (1, 12)], [(.string .empty), (.int .u64 0)]⟩
theorem ty13_ok : TIok Tryz.prog 13 ty13 := ⟨⟨_, info_of Tryz.type13, rfl, rfl, _, rfl, rfl⟩, ⟨_, Tryz.underlying13, rfl, ⟨_, rfl, rfl⟩⟩, rfl, rfl⟩
def ty14 : TI := ⟨true, 2, 24, .strct [(0, 9), (1, 12)], [(.string .empty), (.int .u64 0)]⟩
theorem ty14_ok : TIok Tryz.prog 14 ty14 := ⟨⟨_, info_of Tryz.type14, rfl, rfl, _, rfl, rfl⟩, ⟨_, Tryz.underlying14, rfl, ⟨_, rfl, rfl⟩⟩, rfl, rfl⟩
def ty15 : TI := ⟨false, 1, 8, .ptr 247, [(.pointer none)]⟩
theorem ty15_ok : TIok Tryz.prog 15 ty15 := ⟨⟨_, info_of Tryz.type15, rfl, rfl, _, rfl, ⟨_, rfl, rfl, rfl⟩⟩, ⟨_, Tryz.underlying15, rfl, rfl⟩, rfl, rfl⟩
def ty16 : TI := ⟨false, 1, 8, .ptr 250, [(.pointer none)]⟩
theorem ty16_ok : TIok Tryz.prog 16 ty16 := ⟨⟨_, info_of Tryz.type16, rfl, rfl, _, rfl, ⟨_, rfl, rfl, rfl⟩⟩, ⟨_, Tryz.underlying16, rfl, rfl⟩, rfl, rfl⟩
def ty17 : TI := ⟨false, 1, 8, .ptr 258, [(.pointer none)]⟩
theorem ty17_ok : TIok Tryz.prog 17 ty17 := ⟨⟨_, info_of Tryz.type17, rfl, rfl, _, rfl, ⟨_, rfl, rfl, rfl⟩⟩, ⟨_, Tryz.underlying17, rfl, rfl⟩, rfl, rfl⟩
def ty18 : TI := ⟨true, 1, 8, .strct [(0, 17)], [(.pointer none)]⟩
theorem ty18_ok : TIok Tryz.prog 18 ty18 := ⟨⟨_, info_of Tryz.type18, rfl, rfl, _, rfl, rfl⟩, ⟨_, Tryz.underlying18, rfl, ⟨_, rfl, rfl⟩⟩, rfl, rfl⟩
def ty19 : TI := ⟨true, 1, 8, .strct [(0, 17)], [(.pointer none)]⟩
theorem ty19_ok : TIok Tryz.prog 19 ty19 := ⟨⟨_, info_of Tryz.type19, rfl, rfl, _, rfl, rfl⟩, ⟨_, Tryz.underlying19, rfl, ⟨_, rfl, rfl⟩⟩, rfl, rfl⟩
def ty20 : TI := ⟨false, 1, 16, .iface, [.nilIface]⟩
theorem ty20_ok : TIok Tryz.prog 20 ty20 := ⟨⟨_, info_of Tryz.type20, rfl, rfl, _, rfl, ⟨_, rfl, rfl, rfl⟩⟩, ⟨_, Tryz.underlying20, rfl, ⟨_, rfl⟩⟩, rfl, rfl⟩
def ty21 : TI := ⟨false, 1, 4, .int .i32, [(.int .i32 0)]⟩
theorem ty21_ok : TIok Tryz.prog 21 ty21 := ⟨⟨_, info_of Tryz.type21, rfl, rfl, _, rfl, ⟨_, rfl, rfl, rfl⟩⟩, ⟨_, Tryz.underlying21, rfl, rfl⟩, rfl, rfl⟩
def ty22 : TI := ⟨false, 1, 24, .slice 5, [(.slice none 0 0)]⟩
theorem ty22_ok : TIok Tryz.prog 22 ty22 := ⟨⟨_, info_of Tryz.type22, rfl, rfl, _, rfl, ⟨_, rfl, rfl, rfl⟩⟩, ⟨_, Tryz.underlying22, rfl, rfl⟩, rfl, rfl⟩
def ty23 : TI := ⟨false, 1, 24, .slice 3, [(.slice none 0 0)]⟩
theorem ty23_ok : TIok Tryz.prog 23 ty23 := ⟨⟨_, info_of Tryz.type23, rfl, rfl, _, rfl, ⟨_, rfl, rfl, rfl⟩⟩, ⟨_, Tryz.underlying23, rfl, rfl⟩, rfl, rfl⟩
def ty24 : TI := ⟨true, 4, 64, .strct [(0, 3), (1, 3), (2, 23), (3, 23)], [(.int .i64 0), (.int .i64 0), (.slice none 0 0), (.slice none 0 0)]⟩
theorem ty24_ok : TIok Tryz.prog 24 ty24 := ⟨⟨_, info_of Tryz.type24, rfl, rfl, _, rfl, rfl⟩, ⟨_, Tryz.underlying24, rfl, ⟨_, rfl, rfl⟩⟩, rfl, rfl⟩
def ty25 : TI := ⟨true, 4, 64, .strct [(0, 3), (1, 3), (2, 23), (3, 23)], [(.int .i64 0), (.int .i64 0), (.slice none 0 0), (.slice none 0 0)]⟩
theorem ty25_ok : TIok Tryz.prog 25 ty25 := ⟨⟨_, info_of Tryz.type25, rfl, rfl, _, rfl, rfl⟩, ⟨_, Tryz.underlying25, rfl, ⟨_, rfl, rfl⟩⟩, rfl, rfl⟩
def ty26 : TI := ⟨true, 4, 48, .strct [(0, 3), (1, 3), (2, 3), (3, 23)], [(.int .i64 0), (.int .i64 0), (.int .i64 0), (.slice none 0 0)]⟩
theorem ty26_ok : TIok Tryz.prog 26 ty26 := ⟨⟨_, info_of Tryz.type26, rfl, rfl, _, rfl, rfl⟩, ⟨_, Tryz.underlying26, rfl, ⟨_, rfl, rfl⟩⟩, rfl, rfl⟩
def ty27 : TI := ⟨true, 4, 48, .strct [(0, 3), (1, 3), (2, 3), (3, 23)], [(.int .i64 0), (.int .i64 0), (.int .i64 0), (.slice none 0 0)]⟩
theorem ty27_ok : TIok Tryz.prog 27 ty27 := ⟨⟨_, info_of Tryz.type27, rfl, rfl, _, rfl, rfl⟩, ⟨_, Tryz.underlying27, rfl, ⟨_, rfl, rfl⟩⟩, rfl, rfl⟩
def ty47 : TI := ⟨true, 4, 64, .strct [(0, 3), (1, 3), (2, 23), (3, 23)], [(.int .i64 0), (.int .i64 0), (.slice none 0 0), (.slice none 0 0)]⟩
theorem ty47_ok : TIok Tryz.prog 47 ty47 := ⟨⟨_, info_of Tryz.type47, rfl, rfl, _, rfl, rfl⟩, ⟨_, Tryz.underlying47, rfl, ⟨_, rfl, rfl⟩⟩, rfl, rfl⟩
def ty48 : TI := ⟨true, 9, 136, .strct [(0, 47), (4, 47), (8, 3)], [(.int .i64 0), (.int .i64 0), (.slice none 0 0), (.slice none 0 0), (.int .i64 0), (.int .i64 0), (.slice none 0 0), (.slice none 0 0), (.int .i64 0)]⟩
theorem ty48_ok : TIok Tryz.prog 48 ty48 := ⟨⟨_, info_of Tryz.type48, rfl, rfl, _, rfl, rfl⟩, ⟨_, Tryz.underlying48, rfl, ⟨_, rfl, rfl⟩⟩, rfl, rfl⟩
def ty49 : TI := ⟨true, 9, 136, .strct [(0, 47), (4, 47), (8, 3)], [(.int .i64 0), (.int .i64 0), (.slice none 0 0), (.slice none 0 0), (.int .i64 0), (.int .i64 0), (.slice none 0 0), (.slice none 0 0), (.int .i64 0)]⟩
theorem ty49_ok : TIok Tryz.prog 49 ty49 := ⟨⟨_, info_of Tryz.type49, rfl, rfl, _, rfl, rfl⟩, ⟨_, Tryz.underlying49, rfl, ⟨_, rfl, rfl⟩⟩, rfl, rfl⟩
def ty50 : TI := ⟨true, 4, 48, .strct [(0, 3), (1, 3), (2, 3), (3, 23)], [(.int .i64 0), (.int .i64 0), (.int .i64 0), (.slice none 0 0)]⟩
theorem ty50_ok : TIok Tryz.prog 50 ty50 := ⟨⟨_, info_of Tryz.type50, rfl, rfl, _, rfl, rfl⟩, ⟨_, Tryz.underlying50, rfl, ⟨_, rfl, rfl⟩⟩, rfl, rfl⟩
def ty53 : TI := ⟨true, 9, 136, .strct [(0, 25), (4, 25), (8, 3)], [(.int .i64 0), (.int .i64 0), (.slice none 0 0), (.slice none 0 0), (.int .i64 0), (.int .i64 0), (.slice none 0 0), (.slice none 0 0), (.int .i64 0)]⟩
theorem ty53_ok : TIok Tryz.prog 53 ty53 := ⟨⟨_, info_of Tryz.type53, rfl, rfl, _, rfl, rfl⟩, ⟨_, Tryz.underlying53, rfl, ⟨_, rfl, rfl⟩⟩, rfl, rfl⟩
def ty54 : TI := ⟨true, 9, 136, .strct [(0, 25), (4, 25), (8, 3)], [(.int .i64 0), (.int .i64 0), (.slice none 0 0), (.slice none 0 0), (.int .i64 0), (.int .i64 0), (.slice none 0 0), (.slice none 0 0), (.int .i64 0)]⟩
theorem ty54_ok : TIok Tryz.prog 54 ty54 := ⟨⟨_, info_of Tryz.type54, rfl, rfl, _, rfl, rfl⟩, ⟨_, Tryz.underlying54, rfl, ⟨_, rfl, rfl⟩⟩, rfl, rfl⟩
def ty75 : TI := ⟨false, 1, 8, .ptr 129, [(.pointer none)]⟩
theorem ty75_ok : TIok Tryz.prog 75 ty75 := ⟨⟨_, info_of Tryz.type75, rfl, rfl, _, rfl, ⟨_, rfl, rfl, rfl⟩⟩, ⟨_, Tryz.underlying75, rfl, rfl⟩, rfl, rfl⟩
def ty86 : TI := ⟨false, 1, 8, .map 3 4, [(.map none)]⟩
theorem ty86_ok : TIok Tryz.prog 86 ty86 := ⟨⟨_, info_of Tryz.type86, rfl, rfl, _, rfl, ⟨_, rfl, rfl, rfl⟩⟩, ⟨_, Tryz.underlying86, rfl, rfl⟩, rfl, rfl⟩
def ty87 : TI := ⟨false, 1, 8, .map 3 4, [(.map none)]⟩
theorem ty87_ok : TIok Tryz.prog 87 ty87 := ⟨⟨_, info_of Tryz.type87, rfl, rfl, _, rfl, ⟨_, rfl, rfl, rfl⟩⟩, ⟨_, Tryz.underlying87, rfl, rfl⟩, rfl, rfl⟩
def ty93 : TI := ⟨false, 1, 8, .int .i64, [(.int .i64 0)]⟩
theorem ty93_ok : TIok Tryz.prog 93 ty93 := ⟨⟨_, info_of Tryz.type93, rfl, rfl, _, rfl, ⟨_, rfl, rfl, rfl⟩⟩, ⟨_, Tryz.underlying93, rfl, rfl⟩, rfl, rfl⟩
def ty94 : TI := ⟨false, 1, 16, .iface, [.nilIface]⟩
theorem ty94_ok : TIok Tryz.prog 94 ty94 := ⟨⟨_, info_of Tryz.type94, rfl, rfl, _, rfl, ⟨_, rfl, rfl, rfl⟩⟩, ⟨_, Tryz.underlying94, rfl, ⟨_, rfl⟩⟩, rfl, rfl⟩
def ty95 : TI := ⟨false, 1, 16, .iface, [.nilIface]⟩
theorem ty95_ok : TIok Tryz.prog 95 ty95 := ⟨⟨_, info_of Tryz.type95, rfl, rfl, _, rfl, ⟨_, rfl, rfl, rfl⟩⟩, ⟨_, Tryz.underlying95, rfl, ⟨_, rfl⟩⟩, rfl, rfl⟩
def ty99 : TI := ⟨true, 3, 40, .strct [(0, 3), (1, 3), (2, 23)], [(.int .i64 0), (.int .i64 0), (.slice none 0 0)]⟩
theorem ty99_ok : TIok Tryz.prog 99 ty99 := ⟨⟨_, info_of Tryz.type99, rfl, rfl, _, rfl, rfl⟩, ⟨_, Tryz.underlying99, rfl, ⟨_, rfl, rfl⟩⟩, rfl, rfl⟩
def ty100 : TI := ⟨true, 3, 40, .strct [(0, 3), (1, 3), (2, 23)], [(.int .i64 0), (.int .i64 0), (.slice none 0 0)]⟩
theorem ty100_ok : TIok Tryz.prog 100 ty100 := ⟨⟨_, info_of Tryz.type100, rfl, rfl, _, rfl, rfl⟩, ⟨_, Tryz.underlying100, rfl, ⟨_, rfl, rfl⟩⟩, rfl, rfl⟩
def ty110 : TI := ⟨false, 1, 8, .ptr 120, [(.pointer none)]⟩
theorem ty110_ok : TIok Tryz.prog 110 ty110 := ⟨⟨_, info_of Tryz.type110, rfl, rfl, _, rfl, ⟨_, rfl, rfl, rfl⟩⟩, ⟨_, Tryz.underlying110, rfl, rfl⟩, rfl, rfl⟩
def ty112 : TI := ⟨true, 0, 0, .strct [], []⟩
theorem ty112_ok : TIok Tryz.prog 112 ty112 := ⟨⟨_, info_of Tryz.type112, rfl, rfl, _, rfl, rfl⟩, ⟨_, Tryz.underlying112, rfl, ⟨_, rfl, rfl⟩⟩, rfl, rfl⟩
def ty113 : TI := ⟨true, 0, 0, .strct [], []⟩
theorem ty113_ok : TIok Tryz.prog 113 ty113 := ⟨⟨_, info_of Tryz.type113, rfl, rfl, _, rfl, rfl⟩, ⟨_, Tryz.underlying113, rfl, ⟨_, rfl, rfl⟩⟩, rfl, rfl⟩
def ty114 : TI := ⟨false, 1, 4, .int .u32, [(.int .u32 0)]⟩
theorem ty114_ok : TIok Tryz.prog 114 ty114 := ⟨⟨_, info_of Tryz.type114, rfl, rfl, _, rfl, ⟨_, rfl, rfl, rfl⟩⟩, ⟨_, Tryz.underlying114, rfl, rfl⟩, rfl, rfl⟩
def ty115 : TI := ⟨true, 2, 8, .strct [(0, 21), (1, 114)], [(.int .i32 0), (.int .u32 0)]⟩
theorem ty115_ok : TIok Tryz.prog 115 ty115 := ⟨⟨_, info_of Tryz.type115, rfl, rfl, _, rfl, rfl⟩, ⟨_, Tryz.underlying115, rfl, ⟨_, rfl, rfl⟩⟩, rfl, rfl⟩
def ty116 : TI := ⟨true, 2, 8, .strct [(0, 21), (1, 114)], [(.int .i32 0), (.int .u32 0)]⟩
theorem ty116_ok : TIok Tryz.prog 116 ty116 := ⟨⟨_, info_of Tryz.type116, rfl, rfl, _, rfl, rfl⟩, ⟨_, Tryz.underlying116, rfl, ⟨_, rfl, rfl⟩⟩, rfl, rfl⟩
def ty117 : TI := ⟨true, 2, 8, .strct [(0, 113), (0, 116)], [(.int .i32 0), (.int .u32 0)]⟩
theorem ty117_ok : TIok Tryz.prog 117 ty117 := ⟨⟨_, info_of Tryz.type117, rfl, rfl, _, rfl, rfl⟩, ⟨_, Tryz.underlying117, rfl, ⟨_, rfl, rfl⟩⟩, rfl, rfl⟩
def ty118 : TI := ⟨true, 2, 8, .strct [(0, 113), (0, 116)], [(.int .i32 0), (.int .u32 0)]⟩
theorem ty118_ok : TIok Tryz.prog 118 ty118 := ⟨⟨_, info_of Tryz.type118, rfl, rfl, _, rfl, rfl⟩, ⟨_, Tryz.underlying118, rfl, ⟨_, rfl, rfl⟩⟩, rfl, rfl⟩
def ty119 : TI := ⟨true, 11, 144, .strct [(0, 118), (2, 54)], [(.int .i32 0), (.int .u32 0), (.int .i64 0), (.int .i64 0), (.slice none 0 0), (.slice none 0 0), (.int .i64 0), (.int .i64 0), (.slice none 0 0), (.slice none 0 0), (.int .i64 0)]⟩
theorem ty119_ok : TIok Tryz.prog 119 ty119 := ⟨⟨_, info_of Tryz.type119, rfl, rfl, _, rfl, rfl⟩, ⟨_, Tryz.underlying119, rfl, ⟨_, rfl, rfl⟩⟩, rfl, rfl⟩
def ty120 : TI := ⟨true, 11, 144, .strct [(0, 118), (2, 54)], [(.int .i32 0), (.int .u32 0), (.int .i64 0), (.int .i64 0), (.slice none 0 0), (.slice none 0 0), (.int .i64 0), (.int .i64 0), (.slice none 0 0), (.slice none 0 0), (.int .i64 0)]⟩
theorem ty120_ok : TIok Tryz.prog 120 ty120 := ⟨⟨_, info_of Tryz.type120, rfl, rfl, _, rfl, rfl⟩, ⟨_, Tryz.underlying120, rfl, ⟨_, rfl, rfl⟩⟩, rfl, rfl⟩
def ty128 : TI := ⟨true, 2, 32, .strct [(0, 22), (1, 3)], [(.slice none 0 0), (.int .i64 0)]⟩
theorem ty128_ok : TIok Tryz.prog 128 ty128 := ⟨⟨_, info_of Tryz.type128, rfl, rfl, _, rfl, rfl⟩, ⟨_, Tryz.underlying128, rfl, ⟨_, rfl, rfl⟩⟩, rfl, rfl⟩
def ty129 : TI := ⟨true, 2, 32, .strct [(0, 22), (1, 3)], [(.slice none 0 0), (.int .i64 0)]⟩
theorem ty129_ok : TIok Tryz.prog 129 ty129 := ⟨⟨_, info_of Tryz.type129, rfl, rfl, _, rfl, rfl⟩, ⟨_, Tryz.underlying129, rfl, ⟨_, rfl, rfl⟩⟩, rfl, rfl⟩
def ty136 : TI := ⟨false, 1, 8, .ptr 183, [(.pointer none)]⟩
theorem ty136_ok : TIok Tryz.prog 136 ty136 := ⟨⟨_, info_of Tryz.type136, rfl, rfl, _, rfl, ⟨_, rfl, rfl, rfl⟩⟩, ⟨_, Tryz.underlying136, rfl, rfl⟩, rfl, rfl⟩
def ty138 : TI := ⟨false, 1, 16, .iface, [.nilIface]⟩
theorem ty138_ok : TIok Tryz.prog 138 ty138 := ⟨⟨_, info_of Tryz.type138, rfl, rfl, _, rfl, ⟨_, rfl, rfl, rfl⟩⟩, ⟨_, Tryz.underlying138, rfl, ⟨_, rfl⟩⟩, rfl, rfl⟩
def ty139 : TI := ⟨false, 1, 16, .iface, [.nilIface]⟩
theorem ty139_ok : TIok Tryz.prog 139 ty139 := ⟨⟨_, info_of Tryz.type139, rfl, rfl, _, rfl, ⟨_, rfl, rfl, rfl⟩⟩, ⟨_, Tryz.underlying139, rfl, ⟨_, rfl⟩⟩, rfl, rfl⟩
def ty141 : TI := ⟨false, 1, 8, .ptr 136, [(.pointer none)]⟩
theorem ty141_ok : TIok Tryz.prog 141 ty141 := ⟨⟨_, info_of Tryz.type141, rfl, rfl, _, rfl, ⟨_, rfl, rfl, rfl⟩⟩, ⟨_, Tryz.underlying141, rfl, rfl⟩, rfl, rfl⟩
def ty142 : TI := ⟨true, 0, 0, .strct [], []⟩
theorem ty142_ok : TIok Tryz.prog 142 ty142 := ⟨⟨_, info_of Tryz.type142, rfl, rfl, _, rfl, rfl⟩, ⟨_, Tryz.underlying142, rfl, ⟨_, rfl, rfl⟩⟩, rfl, rfl⟩
def ty143 : TI := ⟨true, 0, 0, .strct [], []⟩
theorem ty143_ok : TIok Tryz.prog 143 ty143 := ⟨⟨_, info_of Tryz.type143, rfl, rfl, _, rfl, rfl⟩, ⟨_, Tryz.underlying143, rfl, ⟨_, rfl, rfl⟩⟩, rfl, rfl⟩
def ty144 : TI := ⟨false, 1, 8, .int .u64, [(.int .u64 0)]⟩
theorem ty144_ok : TIok Tryz.prog 144 ty144 := ⟨⟨_, info_of Tryz.type144, rfl, rfl, _, rfl, ⟨_, rfl, rfl, rfl⟩⟩, ⟨_, Tryz.underlying144, rfl, rfl⟩, rfl, rfl⟩
def ty145 : TI := ⟨true, 1, 8, .strct [(0, 142), (0, 143), (0, 144)], [(.int .u64 0)]⟩
theorem ty145_ok : TIok Tryz.prog 145 ty145 := ⟨⟨_, info_of Tryz.type145, rfl, rfl, _, rfl, rfl⟩, ⟨_, Tryz.underlying145, rfl, ⟨_, rfl, rfl⟩⟩, rfl, rfl⟩
def ty146 : TI := ⟨true, 1, 8, .strct [(0, 142), (0, 143), (0, 144)], [(.int .u64 0)]⟩
theorem ty146_ok : TIok Tryz.prog 146 ty146 := ⟨⟨_, info_of Tryz.type146, rfl, rfl, _, rfl, rfl⟩, ⟨_, Tryz.underlying146, rfl, ⟨_, rfl, rfl⟩⟩, rfl, rfl⟩
def ty147 : TI := ⟨true, 2, 16, .strct [(0, 113), (0, 146), (1, 114)], [(.int .u64 0), (.int .u32 0)]⟩
theorem ty147_ok : TIok Tryz.prog 147 ty147 := ⟨⟨_, info_of Tryz.type147, rfl, rfl, _, rfl, rfl⟩, ⟨_, Tryz.underlying147, rfl, ⟨_, rfl, rfl⟩⟩, rfl, rfl⟩
def ty148 : TI := ⟨true, 2, 16, .strct [(0, 113), (0, 146), (1, 114)], [(.int .u64 0), (.int .u32 0)]⟩
theorem ty148_ok : TIok Tryz.prog 148 ty148 := ⟨⟨_, info_of Tryz.type148, rfl, rfl, _, rfl, rfl⟩, ⟨_, Tryz.underlying148, rfl, ⟨_, rfl, rfl⟩⟩, rfl, rfl⟩
def ty151 : TI := ⟨true, 0, 0, .strct [], []⟩
theorem ty151_ok : TIok Tryz.prog 151 ty151 := ⟨⟨_, info_of Tryz.type151, rfl, rfl, _, rfl, rfl⟩, ⟨_, Tryz.underlying151, rfl, ⟨_, rfl, rfl⟩⟩, rfl, rfl⟩
def ty152 : TI := ⟨true, 0, 0, .strct [], []⟩
theorem ty152_ok : TIok Tryz.prog 152 ty152 := ⟨⟨_, info_of Tryz.type152, rfl, rfl, _, rfl, rfl⟩, ⟨_, Tryz.underlying152, rfl, ⟨_, rfl, rfl⟩⟩, rfl, rfl⟩
def ty153 : TI := ⟨true, 0, 0, .strct [], []⟩
theorem ty153_ok : TIok Tryz.prog 153 ty153 := ⟨⟨_, info_of Tryz.type153, rfl, rfl, _, rfl, rfl⟩, ⟨_, Tryz.underlying153, rfl, ⟨_, rfl, rfl⟩⟩, rfl, rfl⟩
def ty168 : TI := ⟨true, 4, 32, .arr 4 93, [(.int .i64 0), (.int .i64 0), (.int .i64 0), (.int .i64 0)]⟩
theorem ty168_ok : TIok Tryz.prog 168 ty168 := ⟨⟨_, info_of Tryz.type168, rfl, rfl, _, rfl, rfl⟩, ⟨_, Tryz.underlying168, rfl, rfl⟩, rfl, rfl⟩
def ty170 : TI := ⟨false, 1, 8, .int .u64, [(.int .u64 0)]⟩
theorem ty170_ok : TIok Tryz.prog 170 ty170 := ⟨⟨_, info_of Tryz.type170, rfl, rfl, _, rfl, ⟨_, rfl, rfl, rfl⟩⟩, ⟨_, Tryz.underlying170, rfl, rfl⟩, rfl, rfl⟩
def ty171 : TI := ⟨true, 3, 24, .strct [(0, 17), (1, 169), (2, 170)], [(.pointer none), (.pointer none), (.int .u64 0)]⟩
theorem ty171_ok : TIok Tryz.prog 171 ty171 := ⟨⟨_, info_of Tryz.type171, rfl, rfl, _, rfl, rfl⟩, ⟨_, Tryz.underlying171, rfl, ⟨_, rfl, rfl⟩⟩, rfl, rfl⟩
def ty172 : TI := ⟨true, 3, 24, .strct [(0, 17), (1, 169), (2, 170)], [(.pointer none), (.pointer none), (.int .u64 0)]⟩
theorem ty172_ok : TIok Tryz.prog 172 ty172 := ⟨⟨_, info_of Tryz.type172, rfl, rfl, _, rfl, rfl⟩, ⟨_, Tryz.underlying172, rfl, ⟨_, rfl, rfl⟩⟩, rfl, rfl⟩
def ty174 : TI := ⟨false, 1, 16, .iface, [.nilIface]⟩
theorem ty174_ok : TIok Tryz.prog 174 ty174 := ⟨⟨_, info_of Tryz.type174, rfl, rfl, _, rfl, ⟨_, rfl, rfl, rfl⟩⟩, ⟨_, Tryz.underlying174, rfl, ⟨_, rfl⟩⟩, rfl, rfl⟩
def ty175 : TI := ⟨false, 1, 16, .iface, [.nilIface]⟩
theorem ty175_ok : TIok Tryz.prog 175 ty175 := ⟨⟨_, info_of Tryz.type175, rfl, rfl, _, rfl, ⟨_, rfl, rfl, rfl⟩⟩, ⟨_, Tryz.underlying175, rfl, ⟨_, rfl⟩⟩, rfl, rfl⟩
def ty177 : TI := ⟨false, 1, 1, .int .u8, [(.int .u8 0)]⟩
theorem ty177_ok : TIok Tryz.prog 177 ty177 := ⟨⟨_, info_of Tryz.type177, rfl, rfl, _, rfl, ⟨_, rfl, rfl, rfl⟩⟩, ⟨_, Tryz.underlying177, rfl, rfl⟩, rfl, rfl⟩
def ty182 : TI := ⟨true, 1, 8, .strct [(0, 3)], [(.int .i64 0)]⟩
theorem ty182_ok : TIok Tryz.prog 182 ty182 := ⟨⟨_, info_of Tryz.type182, rfl, rfl, _, rfl, rfl⟩, ⟨_, Tryz.underlying182, rfl, ⟨_, rfl, rfl⟩⟩, rfl, rfl⟩
def ty183 : TI := ⟨true, 1, 8, .strct [(0, 3)], [(.int .i64 0)]⟩
theorem ty183_ok : TIok Tryz.prog 183 ty183 := ⟨⟨_, info_of Tryz.type183, rfl, rfl, _, rfl, rfl⟩, ⟨_, Tryz.underlying183, rfl, ⟨_, rfl, rfl⟩⟩, rfl, rfl⟩
def ty184 : TI := ⟨false, 1, 8, .ptr 148, [(.pointer none)]⟩
theorem ty184_ok : TIok Tryz.prog 184 ty184 := ⟨⟨_, info_of Tryz.type184, rfl, rfl, _, rfl, ⟨_, rfl, rfl, rfl⟩⟩, ⟨_, Tryz.underlying184, rfl, rfl⟩, rfl, rfl⟩
def ty186 : TI := ⟨false, 1, 8, .int .i64, [(.int .i64 0)]⟩
theorem ty186_ok : TIok Tryz.prog 186 ty186 := ⟨⟨_, info_of Tryz.type186, rfl, rfl, _, rfl, ⟨_, rfl, rfl, rfl⟩⟩, ⟨_, Tryz.underlying186, rfl, rfl⟩, rfl, rfl⟩
def ty190 : TI := ⟨false, 1, 8, .int .u64, [(.int .u64 0)]⟩
theorem ty190_ok : TIok Tryz.prog 190 ty190 := ⟨⟨_, info_of Tryz.type190, rfl, rfl, _, rfl, ⟨_, rfl, rfl, rfl⟩⟩, ⟨_, Tryz.underlying190, rfl, rfl⟩, rfl, rfl⟩
def ty191 : TI := ⟨false, 1, 8, .ptr 114, [(.pointer none)]⟩
theorem ty191_ok : TIok Tryz.prog 191 ty191 := ⟨⟨_, info_of Tryz.type191, rfl, rfl, _, rfl, ⟨_, rfl, rfl, rfl⟩⟩, ⟨_, Tryz.underlying191, rfl, rfl⟩, rfl, rfl⟩
def ty200 : TI := ⟨true, 9, 72, .arr 9 93, [(.int .i64 0), (.int .i64 0), (.int .i64 0), (.int .i64 0), (.int .i64 0), (.int .i64 0), (.int .i64 0), (.int .i64 0), (.int .i64 0)]⟩
theorem ty200_ok : TIok Tryz.prog 200 ty200 := ⟨⟨_, info_of Tryz.type200, rfl, rfl, _, rfl, rfl⟩, ⟨_, Tryz.underlying200, rfl, rfl⟩, rfl, rfl⟩
def ty201 : TI := ⟨true, 9, 72, .arr 9 93, [(.int .i64 0), (.int .i64 0), (.int .i64 0), (.int .i64 0), (.int .i64 0), (.int .i64 0), (.int .i64 0), (.int .i64 0), (.int .i64 0)]⟩
theorem ty201_ok : TIok Tryz.prog 201 ty201 := ⟨⟨_, info_of Tryz.type201, rfl, rfl, _, rfl, rfl⟩, ⟨_, Tryz.underlying201, rfl, rfl⟩, rfl, rfl⟩
def ty205 : TI := ⟨false, 1, 24, .slice 23, [(.slice none 0 0)]⟩
theorem ty205_ok : TIok Tryz.prog 205 ty205 := ⟨⟨_, info_of Tryz.type205, rfl, rfl, _, rfl, ⟨_, rfl, rfl, rfl⟩⟩, ⟨_, Tryz.underlying205, rfl, rfl⟩, rfl, rfl⟩
def ty207 : TI := ⟨false, 1, 8, .ptr 118, [(.pointer none)]⟩
theorem ty207_ok : TIok Tryz.prog 207 ty207 := ⟨⟨_, info_of Tryz.type207, rfl, rfl, _, rfl, ⟨_, rfl, rfl, rfl⟩⟩, ⟨_, Tryz.underlying207, rfl, rfl⟩, rfl, rfl⟩
def ty213 : TI := ⟨true, 1, 8, .strct [(0, 17)], [(.pointer none)]⟩
theorem ty213_ok : TIok Tryz.prog 213 ty213 := ⟨⟨_, info_of Tryz.type213, rfl, rfl, _, rfl, rfl⟩, ⟨_, Tryz.underlying213, rfl, ⟨_, rfl, rfl⟩⟩, rfl, rfl⟩
def ty214 : TI := ⟨true, 1, 8, .strct [(0, 17)], [(.pointer none)]⟩
theorem ty214_ok : TIok Tryz.prog 214 ty214 := ⟨⟨_, info_of Tryz.type214, rfl, rfl, _, rfl, rfl⟩, ⟨_, Tryz.underlying214, rfl, ⟨_, rfl, rfl⟩⟩, rfl, rfl⟩
def ty215 : TI := ⟨false, 1, 8, .ptr 262, [(.pointer none)]⟩
theorem ty215_ok : TIok Tryz.prog 215 ty215 := ⟨⟨_, info_of Tryz.type215, rfl, rfl, _, rfl, ⟨_, rfl, rfl, rfl⟩⟩, ⟨_, Tryz.underlying215, rfl, rfl⟩, rfl, rfl⟩
def ty218 : TI := ⟨false, 1, 16, .iface, [.nilIface]⟩
theorem ty218_ok : TIok Tryz.prog 218 ty218 := ⟨⟨_, info_of Tryz.type218, rfl, rfl, _, rfl, ⟨_, rfl, rfl, rfl⟩⟩, ⟨_, Tryz.underlying218, rfl, ⟨_, rfl⟩⟩, rfl, rfl⟩
def ty221 : TI := ⟨false, 1, 16, .iface, [.nilIface]⟩
theorem ty221_ok : TIok Tryz.prog 221 ty221 := ⟨⟨_, info_of Tryz.type221, rfl, rfl, _, rfl, ⟨_, rfl, rfl, rfl⟩⟩, ⟨_, Tryz.underlying221, rfl, ⟨_, rfl⟩⟩, rfl, rfl⟩
def ty222 : TI := ⟨false, 1, 16, .iface, [.nilIface]⟩
theorem ty222_ok : TIok Tryz.prog 222 ty222 := ⟨⟨_, info_of Tryz.type222, rfl, rfl, _, rfl, ⟨_, rfl, rfl, rfl⟩⟩, ⟨_, Tryz.underlying222, rfl, ⟨_, rfl⟩⟩, rfl, rfl⟩
def ty223 : TI := ⟨false, 1, 24, .slice 139, [(.slice none 0 0)]⟩
theorem ty223_ok : TIok Tryz.prog 223 ty223 := ⟨⟨_, info_of Tryz.type223, rfl, rfl, _, rfl, ⟨_, rfl, rfl, rfl⟩⟩, ⟨_, Tryz.underlying223, rfl, rfl⟩, rfl, rfl⟩
def ty225 : TI := ⟨false, 1, 8, .ptr 146, [(.pointer none)]⟩
theorem ty225_ok : TIok Tryz.prog 225 ty225 := ⟨⟨_, info_of Tryz.type225, rfl, rfl, _, rfl, ⟨_, rfl, rfl, rfl⟩⟩, ⟨_, Tryz.underlying225, rfl, rfl⟩, rfl, rfl⟩
def ty227 : TI := ⟨false, 1, 8, .ptr 144, [(.pointer none)]⟩
theorem ty227_ok : TIok Tryz.prog 227 ty227 := ⟨⟨_, info_of Tryz.type227, rfl, rfl, _, rfl, ⟨_, rfl, rfl, rfl⟩⟩, ⟨_, Tryz.underlying227, rfl, rfl⟩, rfl, rfl⟩
def ty231 : TI := ⟨false, 1, 16, .iface, [.nilIface]⟩
theorem ty231_ok : TIok Tryz.prog 231 ty231 := ⟨⟨_, info_of Tryz.type231, rfl, rfl, _, rfl, ⟨_, rfl, rfl, rfl⟩⟩, ⟨_, Tryz.underlying231, rfl, ⟨_, rfl⟩⟩, rfl, rfl⟩
def ty235 : TI := ⟨false, 1, 8, .ptr 116, [(.pointer none)]⟩
theorem ty235_ok : TIok Tryz.prog 235 ty235 := ⟨⟨_, info_of Tryz.type235, rfl, rfl, _, rfl, ⟨_, rfl, rfl, rfl⟩⟩, ⟨_, Tryz.underlying235, rfl, rfl⟩, rfl, rfl⟩
def ty237 : TI := ⟨false, 1, 8, .ptr 21, [(.pointer none)]⟩
theorem ty237_ok : TIok Tryz.prog 237 ty237 := ⟨⟨_, info_of Tryz.type237, rfl, rfl, _, rfl, ⟨_, rfl, rfl, rfl⟩⟩, ⟨_, Tryz.underlying237, rfl, rfl⟩, rfl, rfl⟩
def ty244 : TI := ⟨false, 1, 8, .ptr 264, [(.pointer none)]⟩
theorem ty244_ok : TIok Tryz.prog 244 ty244 := ⟨⟨_, info_of Tryz.type244, rfl, rfl, _, rfl, ⟨_, rfl, rfl, rfl⟩⟩, ⟨_, Tryz.underlying244, rfl, rfl⟩, rfl, rfl⟩
def ty246 : TI := ⟨true, 4, 40, .strct [(0, 17), (1, 17), (2, 17), (3, 9)], [(.pointer none), (.pointer none), (.pointer none), (.string .empty)]⟩
theorem ty246_ok : TIok Tryz.prog 246 ty246 := ⟨⟨_, info_of Tryz.type246, rfl, rfl, _, rfl, rfl⟩, ⟨_, Tryz.underlying246, rfl, ⟨_, rfl, rfl⟩⟩, rfl, rfl⟩
def ty247 : TI := ⟨true, 4, 40, .strct [(0, 17), (1, 17), (2, 17), (3, 9)], [(.pointer none), (.pointer none), (.pointer none), (.string .empty)]⟩
theorem ty247_ok : TIok Tryz.prog 247 ty247 := ⟨⟨_, info_of Tryz.type247, rfl, rfl, _, rfl, rfl⟩, ⟨_, Tryz.underlying247, rfl, ⟨_, rfl, rfl⟩⟩, rfl, rfl⟩
def ty248 : TI := ⟨true, 0, 0, .arr 0 16, []⟩
theorem ty248_ok : TIok Tryz.prog 248 ty248 := ⟨⟨_, info_of Tryz.type248, rfl, rfl, _, rfl, rfl⟩, ⟨_, Tryz.underlying248, rfl, rfl⟩, rfl, rfl⟩
def ty249 : TI := ⟨true, 0, 0, .strct [(0, 248)], []⟩
theorem ty249_ok : TIok Tryz.prog 249 ty249 := ⟨⟨_, info_of Tryz.type249, rfl, rfl, _, rfl, rfl⟩, ⟨_, Tryz.underlying249, rfl, ⟨_, rfl, rfl⟩⟩, rfl, rfl⟩
def ty250 : TI := ⟨true, 0, 0, .strct [(0, 248)], []⟩
theorem ty250_ok : TIok Tryz.prog 250 ty250 := ⟨⟨_, info_of Tryz.type250, rfl, rfl, _, rfl, rfl⟩, ⟨_, Tryz.underlying250, rfl, ⟨_, rfl, rfl⟩⟩, rfl, rfl⟩
def ty252 : TI := ⟨false, 1, 1, .int .u8, [(.int .u8 0)]⟩
theorem ty252_ok : TIok Tryz.prog 252 ty252 := ⟨⟨_, info_of Tryz.type252, rfl, rfl, _, rfl, ⟨_, rfl, rfl, rfl⟩⟩, ⟨_, Tryz.underlying252, rfl, rfl⟩, rfl, rfl⟩
def ty254 : TI := ⟨false, 1, 8, .ptr 5, [(.pointer none)]⟩
theorem ty254_ok : TIok Tryz.prog 254 ty254 := ⟨⟨_, info_of Tryz.type254, rfl, rfl, _, rfl, ⟨_, rfl, rfl, rfl⟩⟩, ⟨_, Tryz.underlying254, rfl, rfl⟩, rfl, rfl⟩
def ty255 : TI := ⟨false, 1, 4, .int .i32, [(.int .i32 0)]⟩
theorem ty255_ok : TIok Tryz.prog 255 ty255 := ⟨⟨_, info_of Tryz.type255, rfl, rfl, _, rfl, ⟨_, rfl, rfl, rfl⟩⟩, ⟨_, Tryz.underlying255, rfl, rfl⟩, rfl, rfl⟩
def ty256 : TI := ⟨false, 1, 4, .int .i32, [(.int .i32 0)]⟩
theorem ty256_ok : TIok Tryz.prog 256 ty256 := ⟨⟨_, info_of Tryz.type256, rfl, rfl, _, rfl, ⟨_, rfl, rfl, rfl⟩⟩, ⟨_, Tryz.underlying256, rfl, rfl⟩, rfl, rfl⟩
def ty257 : TI := ⟨true, 11, 48, .strct [(0, 12), (1, 12), (2, 114), (3, 252), (4, 5), (5, 5), (6, 177), (7, 253), (8, 254), (9, 255), (10, 256)], [(.int .u64 0), (.int .u64 0), (.int .u32 0), (.int .u8 0), (.int .u8 0), (.int .u8 0), (.int .u8 0), .nilFunc, (.pointer none), (.int .i32 0), (.int .i32 0)]⟩
theorem ty257_ok : TIok Tryz.prog 257 ty257 := ⟨⟨_, info_of Tryz.type257, rfl, rfl, _, rfl, rfl⟩, ⟨_, Tryz.underlying257, rfl, ⟨_, rfl, rfl⟩⟩, rfl, rfl⟩
def ty258 : TI := ⟨true, 11, 48, .strct [(0, 12), (1, 12), (2, 114), (3, 252), (4, 5), (5, 5), (6, 177), (7, 253), (8, 254), (9, 255), (10, 256)], [(.int .u64 0), (.int .u64 0), (.int .u32 0), (.int .u8 0), (.int .u8 0), (.int .u8 0), (.int .u8 0), .nilFunc, (.pointer none), (.int .i32 0), (.int .i32 0)]⟩
theorem ty258_ok : TIok Tryz.prog 258 ty258 := ⟨⟨_, info_of Tryz.type258, rfl, rfl, _, rfl, rfl⟩, ⟨_, Tryz.underlying258, rfl, ⟨_, rfl, rfl⟩⟩, rfl, rfl⟩
def ty261 : TI := ⟨true, 2, 24, .strct [(0, 9), (1, 177)], [(.string .empty), (.int .u8 0)]⟩
theorem ty261_ok : TIok Tryz.prog 261 ty261 := ⟨⟨_, info_of Tryz.type261, rfl, rfl, _, rfl, rfl⟩, ⟨_, Tryz.underlying261, rfl, ⟨_, rfl, rfl⟩⟩, rfl, rfl⟩
def ty262 : TI := ⟨true, 2, 24, .strct [(0, 9), (1, 177)], [(.string .empty), (.int .u8 0)]⟩
theorem ty262_ok : TIok Tryz.prog 262 ty262 := ⟨⟨_, info_of Tryz.type262, rfl, rfl, _, rfl, rfl⟩, ⟨_, Tryz.underlying262, rfl, ⟨_, rfl, rfl⟩⟩, rfl, rfl⟩
def ty263 : TI := ⟨true, 1, 16, .strct [(0, 9)], [(.string .empty)]⟩
theorem ty263_ok : TIok Tryz.prog 263 ty263 := ⟨⟨_, info_of Tryz.type263, rfl, rfl, _, rfl, rfl⟩, ⟨_, Tryz.underlying263, rfl, ⟨_, rfl, rfl⟩⟩, rfl, rfl⟩
def ty264 : TI := ⟨true, 1, 16, .strct [(0, 9)], [(.string .empty)]⟩
theorem ty264_ok : TIok Tryz.prog 264 ty264 := ⟨⟨_, info_of Tryz.type264, rfl, rfl, _, rfl, rfl⟩, ⟨_, Tryz.underlying264, rfl, ⟨_, rfl, rfl⟩⟩, rfl, rfl⟩
def ty265 : TI := ⟨false, 1, 8, .ptr 269, [(.pointer none)]⟩
theorem ty265_ok : TIok Tryz.prog 265 ty265 := ⟨⟨_, info_of Tryz.type265, rfl, rfl, _, rfl, ⟨_, rfl, rfl, rfl⟩⟩, ⟨_, Tryz.underlying265, rfl, rfl⟩, rfl, rfl⟩
def ty267 : TI := ⟨false, 1, 2, .int .u16, [(.int .u16 0)]⟩
theorem ty267_ok : TIok Tryz.prog 267 ty267 := ⟨⟨_, info_of Tryz.type267, rfl, rfl, _, rfl, ⟨_, rfl, rfl, rfl⟩⟩, ⟨_, Tryz.underlying267, rfl, rfl⟩, rfl, rfl⟩
def ty268 : TI := ⟨true, 5, 16, .strct [(0, 255), (1, 267), (2, 267), (3, 114), (4, 114)], [(.int .i32 0), (.int .u16 0), (.int .u16 0), (.int .u32 0), (.int .u32 0)]⟩
theorem ty268_ok : TIok Tryz.prog 268 ty268 := ⟨⟨_, info_of Tryz.type268, rfl, rfl, _, rfl, rfl⟩, ⟨_, Tryz.underlying268, rfl, ⟨_, rfl, rfl⟩⟩, rfl, rfl⟩
def ty269 : TI := ⟨true, 5, 16, .strct [(0, 255), (1, 267), (2, 267), (3, 114), (4, 114)], [(.int .i32 0), (.int .u16 0), (.int .u16 0), (.int .u32 0), (.int .u32 0)]⟩
theorem ty269_ok : TIok Tryz.prog 269 ty269 := ⟨⟨_, info_of Tryz.type269, rfl, rfl, _, rfl, rfl⟩, ⟨_, Tryz.underlying269, rfl, ⟨_, rfl, rfl⟩⟩, rfl, rfl⟩
def ty270 : TI := ⟨false, 1, 24, .slice 273, [(.slice none 0 0)]⟩
theorem ty270_ok : TIok Tryz.prog 270 ty270 := ⟨⟨_, info_of Tryz.type270, rfl, rfl, _, rfl, ⟨_, rfl, rfl, rfl⟩⟩, ⟨_, Tryz.underlying270, rfl, rfl⟩, rfl, rfl⟩
def ty271 : TI := ⟨false, 1, 4, .int .i32, [(.int .i32 0)]⟩
theorem ty271_ok : TIok Tryz.prog 271 ty271 := ⟨⟨_, info_of Tryz.type271, rfl, rfl, _, rfl, ⟨_, rfl, rfl, rfl⟩⟩, ⟨_, Tryz.underlying271, rfl, rfl⟩, rfl, rfl⟩
def ty272 : TI := ⟨true, 4, 16, .strct [(0, 255), (1, 256), (2, 271), (3, 271)], [(.int .i32 0), (.int .i32 0), (.int .i32 0), (.int .i32 0)]⟩
theorem ty272_ok : TIok Tryz.prog 272 ty272 := ⟨⟨_, info_of Tryz.type272, rfl, rfl, _, rfl, rfl⟩, ⟨_, Tryz.underlying272, rfl, ⟨_, rfl, rfl⟩⟩, rfl, rfl⟩
def ty273 : TI := ⟨true, 4, 16, .strct [(0, 255), (1, 256), (2, 271), (3, 271)], [(.int .i32 0), (.int .i32 0), (.int .i32 0), (.int .i32 0)]⟩
theorem ty273_ok : TIok Tryz.prog 273 ty273 := ⟨⟨_, info_of Tryz.type273, rfl, rfl, _, rfl, rfl⟩, ⟨_, Tryz.underlying273, rfl, ⟨_, rfl, rfl⟩⟩, rfl, rfl⟩
def ty275 : TI := ⟨false, 1, 8, .ptr 139, [(.pointer none)]⟩
theorem ty275_ok : TIok Tryz.prog 275 ty275 := ⟨⟨_, info_of Tryz.type275, rfl, rfl, _, rfl, ⟨_, rfl, rfl, rfl⟩⟩, ⟨_, Tryz.underlying275, rfl, rfl⟩, rfl, rfl⟩
def tys : TT := (.node (.node (.node (.node (.node (.node (.node .leaf 2 ty2 .leaf) 3 ty3 (.node .leaf 4 ty4 .leaf)) 5 ty5 (.node (.node .leaf 6 ty6 .leaf) 7 ty7 (.node .leaf 8 ty8 .leaf))) 9 ty9 (.node (.node (.node .leaf 10 ty10 .leaf) 11 ty11 (.node .leaf 12 ty12 .leaf)) 13 ty13 (.node (.node .leaf 14 ty14 .leaf) 15 ty15 (.node .leaf 16 ty16 .leaf)))) 17 ty17 (.node (.node (.node (.node .leaf 18 ty18 .leaf) 19 ty19 (.node .leaf 20 ty20 .leaf)) 21 ty21 (.node (.node .leaf 22 ty22 .leaf) 23 ty23 (.node .leaf 24 ty24 .leaf))) 25 ty25 (.node (.node (.node .leaf 26 ty26 .leaf) 27 ty27 (.node .leaf 47 ty47 .leaf)) 48 ty48 (.node (.node .leaf 49 ty49 .leaf) 50 ty50 .leaf)))) 53 ty53 (.node (.node (.node (.node (.node .leaf 54 ty54 .leaf) 75 ty75 (.node .leaf 86 ty86 .leaf)) 87 ty87 (.node (.node .leaf 93 ty93 .leaf) 94 ty94 (.node .leaf 95 ty95 .leaf))) 99 ty99 (.node (.node (.node .leaf 100 ty100 .leaf) 110 ty110 (.node .leaf 112 ty112 .leaf)) 113 ty113 (.node (.node .leaf 114 ty114 .leaf) 115 ty115 .leaf))) 116 ty116 (.node (.node (.node (.node .leaf 117 ty117 .leaf) 118 ty118 (.node .leaf 119 ty119 .leaf)) 120 ty120 (.node (.node .leaf 128 ty128 .leaf) 129 ty129 (.node .leaf 136 ty136 .leaf))) 138 ty138 (.node (.node (.node .leaf 139 ty139 .leaf) 141 ty141 (.node .leaf 142 ty142 .leaf)) 143 ty143 (.node (.node .leaf 144 ty144 .leaf) 145 ty145 .leaf))))) 146 ty146 (.node (.node (.node (.node (.node (.node .leaf 147 ty147 .leaf) 148 ty148 (.node .leaf 151 ty151 .leaf)) 152 ty152 (.node (.node .leaf 153 ty153 .leaf) 168 ty168 (.node .leaf 170 ty170 .leaf))) 171 ty171 (.node (.node (.node .leaf 172 ty172 .leaf) 174 ty174 (.node .leaf 175 ty175 .leaf)) 177 ty177 (.node (.node .leaf 182 ty182 .leaf) 183 ty183 .leaf))) 184 ty184 (.node (.node (.node (.node .leaf 186 ty186 .leaf) 190 ty190 (.node .leaf 191 ty191 .leaf)) 200 ty200 (.node (.node .leaf 201 ty201 .leaf) 205 ty205 (.node .leaf 207 ty207 .leaf))) 213 ty213 (.node (.node (.node .leaf 214 ty214 .leaf) 215 ty215 (.node .leaf 218 ty218 .leaf)) 221 ty221 (.node (.node .leaf 222 ty222 .leaf) 223 ty223 .leaf)))) 225 ty225 (.node (.node (.node (.node (.node .leaf 227 ty227 .leaf) 231 ty231 (.node .leaf 235 ty235 .leaf)) 237 ty237 (.node (.node .leaf 244 ty244 .leaf) 246 ty246 (.node .leaf 247 ty247 .leaf))) 248 ty248 (.node (.node (.node .leaf 249 ty249 .leaf) 250 ty250 (.node .leaf 252 ty252 .leaf)) 254 ty254 (.node (.node .leaf 255 ty255 .leaf) 256 ty256 .leaf))) 257 ty257 (.node (.node (.node (.node .leaf 258 ty258 .leaf) 261 ty261 (.node .leaf 262 ty262 .leaf)) 263 ty263 (.node (.node .leaf 264 ty264 .leaf) 265 ty265 (.node .leaf 267 ty267 .leaf))) 268 ty268 (.node (.node (.node .leaf 269 ty269 .leaf) 270 ty270 (.node .leaf 271 ty271 .leaf)) 272 ty272 (.node (.node .leaf 273 ty273 .leaf) 275 ty275 .leaf))))))
theorem tys_ok : tys.All (TIok Tryz.prog) := ⟨⟨⟨⟨⟨⟨⟨trivial, ty2_ok, trivial⟩, ty3_ok, ⟨trivial, ty4_ok, trivial⟩⟩, ty5_ok, ⟨⟨trivial, ty6_ok, trivial⟩, ty7_ok, ⟨trivial, ty8_ok, trivial⟩⟩⟩, ty9_ok, ⟨⟨⟨trivial, ty10_ok, trivial⟩, ty11_ok, ⟨trivial, ty12_ok, trivial⟩⟩, ty13_ok, ⟨⟨trivial, ty14_ok, trivial⟩, ty15_ok, ⟨trivial, ty16_ok, trivial⟩⟩⟩⟩, ty17_ok, ⟨⟨⟨⟨trivial, ty18_ok, trivial⟩, ty19_ok, ⟨trivial, ty20_ok, trivial⟩⟩, ty21_ok, ⟨⟨trivial, ty22_ok, trivial⟩, ty23_ok, ⟨trivial, ty24_ok, trivial⟩⟩⟩, ty25_ok, ⟨⟨⟨trivial, ty26_ok, trivial⟩, ty27_ok, ⟨trivial, ty47_ok, trivial⟩⟩, ty48_ok, ⟨⟨trivial, ty49_ok, trivial⟩, ty50_ok, trivial⟩⟩⟩⟩, ty53_ok, ⟨⟨⟨⟨⟨trivial, ty54_ok, trivial⟩, ty75_ok, ⟨trivial, ty86_ok, trivial⟩⟩, ty87_ok, ⟨⟨trivial, ty93_ok, trivial⟩, ty94_ok, ⟨trivial, ty95_ok, trivial⟩⟩⟩, ty99_ok, ⟨⟨⟨trivial, ty100_ok, trivial⟩, ty110_ok, ⟨trivial, ty112_ok, trivial⟩⟩, ty113_ok, ⟨⟨trivial, ty114_ok, trivial⟩, ty115_ok, trivial⟩⟩⟩, ty116_ok, ⟨⟨⟨⟨trivial, ty117_ok, trivial⟩, ty118_ok, ⟨trivial, ty119_ok, trivial⟩⟩, ty120_ok, ⟨⟨trivial, ty128_ok, trivial⟩, ty129_ok, ⟨trivial, ty136_ok, trivial⟩⟩⟩, ty138_ok, ⟨⟨⟨trivial, ty139_ok, trivial⟩, ty141_ok, ⟨trivial, ty142_ok, trivial⟩⟩, ty143_ok, ⟨⟨trivial, ty144_ok, trivial⟩, ty145_ok, trivial⟩⟩⟩⟩⟩, ty146_ok, ⟨⟨⟨⟨⟨⟨trivial, ty147_ok, trivial⟩, ty148_ok, ⟨trivial, ty151_ok, trivial⟩⟩, ty152_ok, ⟨⟨trivial, ty153_ok, trivial⟩, ty168_ok, ⟨trivial, ty170_ok, trivial⟩⟩⟩, ty171_ok, ⟨⟨⟨trivial, ty172_ok, trivial⟩, ty174_ok, ⟨trivial, ty175_ok, trivial⟩⟩, ty177_ok, ⟨⟨trivial, ty182_ok, trivial⟩, ty183_ok, trivial⟩⟩⟩, ty184_ok, ⟨⟨⟨⟨trivial, ty186_ok, trivial⟩, ty190_ok, ⟨trivial, ty191_ok, trivial⟩⟩, ty200_ok, ⟨⟨trivial, ty201_ok, trivial⟩, ty205_ok, ⟨trivial, ty207_ok, trivial⟩⟩⟩, ty213_ok, ⟨⟨⟨trivial, ty214_ok, trivial⟩, ty215_ok, ⟨trivial, ty218_ok, trivial⟩⟩, ty221_ok, ⟨⟨trivial, ty222_ok, trivial⟩, ty223_ok, trivial⟩⟩⟩⟩, ty225_ok, ⟨⟨⟨⟨⟨trivial, ty227_ok, trivial⟩, ty231_ok, ⟨trivial, ty235_ok, trivial⟩⟩, ty237_ok, ⟨⟨trivial, ty244_ok, trivial⟩, ty246_ok, ⟨trivial, ty247_ok, trivial⟩⟩⟩, ty248_ok, ⟨⟨⟨trivial, ty249_ok, trivial⟩, ty250_ok, ⟨trivial, ty252_ok, trivial⟩⟩, ty254_ok, ⟨⟨trivial, ty255_ok, trivial⟩, ty256_ok, trivial⟩⟩⟩, ty257_ok, ⟨⟨⟨⟨trivial, ty258_ok, trivial⟩, ty261_ok, ⟨trivial, ty262_ok, trivial⟩⟩, ty263_ok, ⟨⟨trivial, ty264_ok, trivial⟩, ty265_ok, ⟨trivial, ty267_ok, trivial⟩⟩⟩, ty268_ok, ⟨⟨⟨trivial, ty269_ok, trivial⟩, ty270_ok, ⟨trivial, ty271_ok, trivial⟩⟩, ty272_ok, ⟨⟨trivial, ty273_ok, trivial⟩, ty275_ok, trivial⟩⟩⟩⟩⟩⟩
def gl : List (Nat × Value) := [(1, .iface 214 (.agg #[.pointer (some ⟨2, 139, none⟩)]))]
noncomputable def ctx : Ctx := ⟨Tryz.prog, tys.find, fun _ _ h => TT.find_all tys_ok h, company _ gl, company_sound _ gl⟩
theorem ctx_mixed : ctx.P.follows .mixedOrders = true := by rfl
theorem ctx_enters : ctx.M.Enters := company_enters _ gl
/-- the same, a call deferred below -/
noncomputable def ctxD (D : Deferred) : Ctx := ⟨Tryz.prog, tys.find, fun _ _ h => TT.find_all tys_ok h, dfs _ gl D, dfs_sound _ gl D⟩
theorem ctx_gl {x : ctx.M.X} {E : Emb} {w : World} (h : ctx.M.ok x E w) : Gl gl E w := h.2
end Go.Proofs.YtdjoodbidcncaaaGreatDoor.AW
