/- Maps with int keys. -/
import Derived.Test.YtdjoodbidcncaaaGreatDoorMAxM
set_option linter.unusedVariables false
set_option linter.unusedSimpArgs false
namespace Go.Proofs.YtdjoodbidcncaaaGreatDoor.AW
open Go

def putM : List (Int × List CV) → Int → List CV → List (Int × List CV)
  | [], z, cs => [(z, cs)]
  | (a, y) :: l, z, cs => if a = z then (z, cs) :: l else (a, y) :: putM l z cs
def idxM : List (Int × List CV) → Int → Option Nat
  | [], _ => none
  | (a, _) :: l, z => if a = z then some 0 else (idxM l z).map (· + 1)
def getM : List (Int × List CV) → Int → Option (List CV)
  | [], _ => none
  | (a, y) :: l, z => if a = z then some y else getM l z
theorem putM_none {z : Int} {cs : List CV} : ∀ {es : List (Int × List CV)}, idxM es z = none → putM es z cs = es ++ [(z, cs)]
  | [], _ => rfl
  | (a, y) :: l, h => by
    simp only [idxM] at h
    by_cases e : a = z
    · simp [e] at h
    · rw [if_neg e] at h
      simp only [putM, if_neg e, List.cons_append]
      rw [putM_none (by simpa using h)]
theorem putM_some {z : Int} {cs : List CV} : ∀ {es : List (Int × List CV)} {j : Nat}, idxM es z = some j → (putM es z cs).length = es.length ∧ j < es.length ∧ ∀ k, (putM es z cs)[k]? = if k = j then some (z, cs) else es[k]?
  | [], j, h => by simp [idxM] at h
  | (a, y) :: l, j, h => by
    simp only [idxM] at h
    by_cases e : a = z
    · simp only [e, if_true, Option.some.injEq] at h
      subst h
      simp only [putM, e, if_true]
      refine ⟨by simp, by simp, fun k => ?_⟩
      cases k <;> simp
    · rw [if_neg e] at h
      obtain ⟨i, hi, rfl⟩ := Option.map_eq_some_iff.1 h
      obtain ⟨h1, h2, h3⟩ := putM_some (cs := cs) hi
      simp only [putM, if_neg e]
      refine ⟨by simp [h1], by simp; omega, fun k => ?_⟩
      cases k with
      | zero => simp
      | succ k => simpa using h3 k
theorem getM_idx {z : Int} : ∀ {es : List (Int × List CV)}, (idxM es z = none ∧ getM es z = none) ∨ ∃ j cs, idxM es z = some j ∧ getM es z = some cs ∧ es[j]? = some (z, cs)
  | [] => .inl ⟨rfl, rfl⟩
  | (a, y) :: l => by
    simp only [idxM, getM]
    by_cases e : a = z
    · subst e; exact .inr ⟨0, y, by simp, by simp, by simp⟩
    · rw [if_neg e, if_neg e]
      rcases getM_idx (z := z) (es := l) with ⟨h1, h2⟩ | ⟨j, cs, h1, h2, h3⟩
      · exact .inl ⟨by simp [h1], h2⟩
      · exact .inr ⟨j + 1, cs, by simp [h1], h2, by simpa using h3⟩

/-- the map in the heap is the one that is told -/
def MapIs (w : World) (pr : Nat → Prop) (es : List (Int × List CV)) (ents : Array MapEntry) : Prop := ents.size = es.length ∧ ∀ (k : Nat) (z : Int) (x : List CV), es[k]? = some (z, x) → ∃ e : MapEntry, ents[k]? = some e ∧ e.key = .int .i64 z ∧ RepM w pr x e.val
theorem findNow_map {z : Int} {pr : Nat → Prop} {w : World} : ∀ {es : List (Int × List CV)} {ents : List MapEntry} (i : Nat), MapIs w pr es ents.toArray →
    (idxM es z = none ∧ Instr.findNow (.int .i64) (.int .i64 z) ents i = some none) ∨ ∃ j e cs, idxM es z = some j ∧ ents[j]? = some e ∧ es[j]? = some (z, cs) ∧ e.key = .int .i64 z ∧ RepM w pr cs e.val ∧ Instr.findNow (.int .i64) (.int .i64 z) ents i = some (some (i + j, e.val))
  | [], ents, i, h => by
    have : ents = [] := by have := h.1; simpa using this
    subst this
    exact .inl ⟨rfl, rfl⟩
  | (a, y) :: es, ents, i, h => by
    cases ents with
    | nil => have := h.1; simp at this
    | cons e ents =>
      obtain ⟨e', h1, h2, h3⟩ := h.2 0 a y rfl
      simp only [List.getElem?_toArray, List.getElem?_cons_zero, Option.some.injEq] at h1
      subst h1
      have ht : MapIs w pr es ents.toArray := ⟨by simpa using h.1, fun k z x hk => by simpa using h.2 (k + 1) z x (by simpa using hk)⟩
      simp only [idxM, Instr.findNow, h2, Instr.sameNow, if_true]
      by_cases ea : a = z
      · subst ea
        refine .inr ⟨0, e, y, by simp, by simp, by simp, h2, h3, by simp⟩
      · have eb : (z == a) = false := by simpa using fun h => ea h.symm
        rw [if_neg ea, eb]
        simp only
        rcases findNow_map (z := z) (i + 1) ht with ⟨g1, g2⟩ | ⟨j, e2, cs, g1, g2, g3, g4, g5, g6⟩
        · exact .inl ⟨by simp [g1], g2⟩
        · exact .inr ⟨j + 1, e2, cs, by simp [g1], by simpa using g2, by simpa using g3, g4, g5, by rw [g6]; congr 3; omega⟩

/-! what the operations do -/
section
variable {P : Program} {w : World} {r clock : Nat} {ents : Array MapEntry}
theorem run_getMap (h : w.heap[r]? = some (.map ents clock)) : (getObj r).run P w = .ok (.map ents clock) w := by simp [getObj, Sem.run, h]
theorem ev_getMap (h : w.heap[r]? = some (.map ents clock)) : (getObj r).events P w #[] = #[⟨.obj r, false, false⟩] := by simp [getObj, Sem.events, Sem.runT, h, Obj.isChan, -Sem.runT_eq]
theorem run_setMap (o : Obj) (h : w.heap[r]? = some (.map ents clock)) : (setObj r o).run P w = .ok () { w with heap := w.heap.setIfInBounds r o } := by simp [setObj, Sem.run, h]
theorem ev_setMap {e' : Array MapEntry} {c' : Nat} (h : w.heap[r]? = some (.map ents clock)) : (setObj r (.map e' c')).events P w #[] = #[⟨.obj r, true, false⟩] := by simp [setObj, Sem.events, Sem.runT, h, Obj.isChan, -Sem.runT_eq]
theorem run_checkKey {b : Bool} {kt : TypeId} (hk : P.underlying kt = some (.int .i64)) (z : Int) : (Instr.checkKey b 10000 kt (.int .i64 z)).run P w = .ok () w ∧ (Instr.checkKey b 10000 kt (.int .i64 z)).events P w #[] = #[] := by
  rw [show (10000 : Nat) = 9999 + 1 from rfl]
  unfold Instr.checkKey
  constructor
  · rw [Sem.run_bind, run_underlying hk]; rfl
  · rw [Sem.events_bind, run_underlying hk, events_underlying]; rfl
theorem run_findKey {kt : TypeId} {k : Value} {es : List MapEntry} {x : Option (Nat × Value)} (hk : P.underlying kt = some (.int .i64)) (h : Instr.findNow (.int .i64) k es 0 = some x) : (Instr.findKey kt k es).run P w = .ok x w ∧ (Instr.findKey kt k es).events P w #[] = #[] := by
  simp only [Instr.findKey, Sem.run_bind, Sem.events_bind, run_underlying hk, events_underlying, Result.andThen_ok, Result.evThen_ok, h]
  simp
theorem run_keyStays {z : Int} : (Instr.keyThatStays (.int .i64 z) (.int .i64 z)).run P w = .ok (.int .i64 z) w ∧ (Instr.keyThatStays (.int .i64 z) (.int .i64 z)).events P w #[] = #[] := by
  have : Instr.sameBits 10000 (.int .i64 z) (.int .i64 z) = true := by rw [show (10000 : Nat) = 9999 + 1 from rfl]; simp [Instr.sameBits]
  simp [Instr.keyThatStays, this]
end

/-- a value as cells -/
def closeAll : List AV → Option (List CV)
  | [] => some []
  | .cv c :: l => (closeAll l).map (c :: ·)
  | _ => none
def mvOf : AV → Option (List CV)
  | .cv c => some [c]
  | .agg [_] => none
  | .agg cs => closeAll cs
  | _ => none
def avOf : List CV → AV
  | [c] => .cv c
  | cs => .agg (cs.map .cv)
theorem closeAll_get : ∀ {l : List AV} {cs : List CV}, closeAll l = some cs → l = cs.map .cv
  | [], cs, h => by simp only [closeAll, Option.some.injEq] at h; subst h; rfl
  | .cv c :: l, cs, h => by
    simp only [closeAll] at h
    obtain ⟨r, h1, rfl⟩ := Option.map_eq_some_iff.1 h
    rw [closeAll_get h1]; rfl
  | .any :: _, _, h | .ptr .. :: _, _, h | .own .. :: _, _, h | .agg _ :: _, _, h | .tup _ :: _, _, h | .ifc .. :: _, _, h | .fn .. :: _, _, h | .mp _ :: _, _, h | .ch _ :: _, _, h => by simp [closeAll] at h
theorem mvOf_rep {w : World} {E : Emb} {x : AV} {v : Value} {cs : List CV} (h : RepA w E x v) (hx : mvOf x = some cs) : RepM w E.pr cs v := by
  unfold mvOf at hx
  split at hx
  · simp only [Option.some.injEq] at hx; subst hx
    cases h with | cv _ _ h => exact h
  · cases hx
  · rename_i l hne
    have := closeAll_get hx
    subst this
    obtain ⟨vs, rfl, hs, hr⟩ := rep_agg h
    have hall : ∀ k x, cs[k]? = some x → RepC w E.pr x (vs.getD k undef) := fun k x hk => by
      have := hr k (.cv x) (by simp [hk])
      generalize vs.getD k undef = u at this
      cases this with | cv _ _ h => exact h
    have hs : vs.size = cs.length := by simpa using hs
    match cs, hne, hs, hall with
    | [], _, hs, hall => exact ⟨vs, rfl, hs, hall⟩
    | [c], hne, _, _ => exact (hne _ rfl).elim
    | _ :: _ :: _, _, hs, hall => exact ⟨vs, rfl, hs, hall⟩
  · cases hx
theorem avOf_rep {w : World} {E : Emb} {v : Value} {cs : List CV} (h : RepM w E.pr cs v) : RepA w E (avOf cs) v := by
  unfold RepM at h
  split at h
  · exact .cv _ _ h
  · rename_i hne
    obtain ⟨vs, rfl, hs, hr⟩ := h
    have : avOf cs = .agg (cs.map .cv) := by
      match cs, hne with
      | [], _ => rfl
      | [c], hne => exact (hne c rfl).elim
      | _ :: _ :: _, _ => rfl
    rw [this]
    refine .agg _ _ (by simpa using hs) fun k x hx => ?_
    simp only [List.getElem?_map, Option.map_eq_some_iff] at hx
    obtain ⟨c, hc, rfl⟩ := hx
    exact .cv _ _ (hr k c hc)

theorem zero_rep {w : World} {E : Emb} {i : TI} {z : Value} (hz : zeroOk i z) (h1 : i.zero.all oneV = true) {v : AV} (hv : mkVar i.agg (zeroA i) = some v) : RepA w E v z := by
  unfold zeroOk at hz
  unfold mkVar at hv
  split at hz
  · rename_i ha
    simp only [ha, if_true, Option.some.injEq] at hv
    subst hv; subst hz
    exact .agg _ _ (by simp [zeroA]) (zeroA_rep h1)
  · rename_i ha
    obtain ⟨u, e1, rfl, e3⟩ := hz
    simp only [ha, Bool.false_eq_true, if_false, zeroA, e1, List.map_cons, List.map_nil, Option.some.injEq] at hv
    subst hv
    exact .cv _ _ (.sc _ e3)

section
variable {C : Ctx} {o : Oper} {N : Nat} {T : Nat → AV} {H : Nat → Option Block}
theorem mem_map' {α β : Type} {P : Program} {w : World} {s : Sem α} {f : α → β} {e : Event} (h : e ∈ (f <$> s).events P w #[]) : e ∈ s.events P w #[] := by rwa [Sem.events_map] at h
theorem EvOk.obj {E : Emb} {w w' : World} {es : Array Event} {r : Nat} (hl : r < w'.heap.size) (h : ∀ e ∈ es, ∃ wr, e = ⟨.obj r, wr, false⟩) : EvOk E w w' es := fun e he => by
  obtain ⟨wr, rfl⟩ := h e he
  exact .inl (.inr ⟨r, wr, false, rfl, hl⟩)

/-- a slice beside nil -/
def sliceNil : AV → Option Bool
  | .cv (.sc (.slice a _ _)) => some a.isNone
  | .cv (.ro _ (_ :: _) _) => some false
  | _ => none
theorem slice_nil {nx : Nat} {K : Eff → Prop} {t ty e : TypeId} {op : BinOp} {x : Operand} {n c : Nat} (ho : o.op = .binOp op t x (.const (.slice none n c)) ty) (hu : C.P.underlying t = some (.slice e)) {q : Bool} (hq : sliceNil (ev T x) = some q)
    (h : match op with | .eql => K ⟨bv q, [], [], []⟩ | .neq => K ⟨bv (!q), [], [], []⟩ | _ => False) : CallVC C o N T H nx K := by
  unfold CallVC
  have hs : ∀ E (a : Act) w, RepA w E (ev T x) (a.eval x) → ∃ p n c, a.eval x = .slice p n c ∧ p.isNone = q := fun E a w hr => by
    unfold sliceNil at hq
    split at hq
    · rename_i e; rw [e] at hr; cases hq; exact ⟨_, _, _, rep_sc hr, rfl⟩
    · rename_i e; rw [e] at hr; cases hq
      obtain ⟨p, n, c, vs, e1, _, _, _, _, e6, _⟩ := rep_ro hr
      obtain ⟨ad, e7, _⟩ := e6 0 _ rfl
      exact ⟨p, n, c, e1, by rw [e7]; rfl⟩
    · cases hq
  have key : ∀ p n' c' w, (Op.equal t (.slice p n' c') (.slice none n c)).run C.P w = .ok p.isNone w ∧ (Op.equal t (.slice p n' c') (.slice none n c)).events C.P w #[] = #[] := fun p n' c' w => by
    unfold Op.equal
    rw [show Op.maxDepth = 9999 + 1 from rfl]
    unfold Op.equalIn
    rw [Sem.run_bind, Sem.events_bind, run_underlying hu, events_underlying]
    cases p <;> exact ⟨rfl, rfl⟩
  cases op <;> simp only at h
  case eql =>
    refine bin_base ho h fun E a w rx _ => ?_
    obtain ⟨p, n', c', e1, e2⟩ := hs E a w rx
    have e3 : a.eval (.const (.slice none n c)) = .slice none n c := rfl
    rw [e1, e3]
    refine ⟨.bool q, by unfold eqGuard; rfl, ?_, .cv _ _ (.sc _ rfl), by unfold eqGuard; rfl, ?_⟩
    · rw [show binOp .eql t (.slice p n' c') (.slice none n c) = (do pure (.bool (← Op.equal t (.slice p n' c') (.slice none n c)))) from rfl, Sem.run_bind, (key p n' c' w).1, e2]; rfl
    · rw [show binOp .eql t (.slice p n' c') (.slice none n c) = (do pure (.bool (← Op.equal t (.slice p n' c') (.slice none n c)))) from rfl, Sem.events_bind, (key p n' c' w).1, (key p n' c' w).2]; rfl
  case neq =>
    refine bin_base ho h fun E a w rx _ => ?_
    obtain ⟨p, n', c', e1, e2⟩ := hs E a w rx
    have e3 : a.eval (.const (.slice none n c)) = .slice none n c := rfl
    rw [e1, e3]
    refine ⟨.bool (!q), by unfold eqGuard; rfl, ?_, .cv _ _ (.sc _ rfl), by unfold eqGuard; rfl, ?_⟩
    · rw [show binOp .neq t (.slice p n' c') (.slice none n c) = (do pure (.bool (!(← Op.equal t (.slice p n' c') (.slice none n c))))) from rfl, Sem.run_bind, (key p n' c' w).1, e2]; rfl
    · rw [show binOp .neq t (.slice p n' c') (.slice none n c) = (do pure (.bool (!(← Op.equal t (.slice p n' c') (.slice none n c))))) from rfl, Sem.events_bind, (key p n' c' w).1, (key p n' c' w).2]; rfl

/-- a map is made -/
theorem map_make {nx : Nat} {K : Eff → Prop} {t : TypeId} (ho : o.op = .makeMap t none) (h : K ⟨.mp nx, [(nx, some (.mp []))], [nx], []⟩) : CallVC C o N T H nx K := by
  unfold CallVC
  refine ⟨_, loc_mk fun T' H' _ _ E a w ht hh hf => ?_, rfl, h⟩
  have hn : ¬ E.U nx := hf nx (by simp)
  have hr : (execOp a.eval o).run C.P w = .ok (.value (.map (some w.heap.size))) { w with heap := w.heap.push (.map #[] 0) } := by
    simp only [execOp, ho]; rfl
  have hev : (execOp a.eval o).events C.P w #[] = #[] := by simp only [execOp, ho]; rfl
  have old : ∀ r, r < w.heap.size → ({ w with heap := w.heap.push (.map #[] 0) } : World).heap[r]? = w.heap[r]? := fun r hr => push_old hr
  have hb : (E.add nx w.heap.size 0).blk nx = w.heap.size := by simp [Emb.add]
  obtain ⟨g1, g2⟩ := hh.alloc (B := .mp []) (s := 0) hn (by simp) old ⟨rfl, rfl, rfl⟩ ⟨by simp [Emb.add], #[], 0, by rw [hb]; simp, rfl, by simp⟩
  refine ⟨_, _, E.add nx w.heap.size 0, .inl hr, ?_, g1, g2, fun b => by simp [Emb.add, or_comm], .nil hev⟩
  have := RepA.mp (w := { w with heap := w.heap.push (.map #[] 0) }) (E := E.add nx w.heap.size 0) nx (.inl rfl) (by simp [Emb.add])
  rw [hb] at this; exact this

theorem rep_mp {w : World} {E : Emb} {b : Nat} {u : Value} (h : RepA w E (.mp b) u) : E.U b ∧ ¬ E.gh b ∧ u = .map (some (E.blk b)) := by cases h with | mp _ h1 h2 => exact ⟨h1, h2, rfl⟩

/-- how many entries -/
theorem map_len {nx : Nat} {K : Eff → Prop} {x : Operand} {ats : Array TypeId} (ho : o.op = .call { callee := .builtin .len, args := #[x], argTypes := ats }) {t kt et : TypeId} (hat : ats[0]? = some t) (hu : C.P.underlying t = some (.map kt et))
    {b : Nat} {es : List (Int × List CV)} (hx : ev T x = .mp b) (hb : H b = some (.mp es)) (h : K ⟨iv .i64 es.length, [], [], [b]⟩) : CallVC C o N T H nx K := by
  have mx : x ∈ o.op.operands := by simp [ho, Op.operands, Call.operands]
  unfold CallVC
  refine does_val h fun T' H' g1 g2 E a w ht hh => ?_
  obtain ⟨hU, hg, e1⟩ := rep_mp (rep_at ht (g1 x mx) hx)
  obtain ⟨_, ents, cl, hp, hs, hc⟩ := hh.hp b _ ((g2 b (by simp)).trans hb)
  refine ⟨_, w, by rw [run_builtin ho]; simp [builtin, Builtin.len_, hat, e1, run_underlying hu, run_getMap hp, goInt, hs], rfl, .cv _ _ (.sc _ rfl), ?_⟩
  refine EvOk.obj (r := E.blk b) (Array.getElem?_eq_some_iff.1 hp).1 fun e he => ?_
  rw [ev_builtin ho] at he
  have e0 : (Builtin.len_ ats o.type #[.map (some (E.blk b))]).events C.P w #[] = #[⟨.obj (E.blk b), false, false⟩] := by
    unfold Builtin.len_
    simp only [hat, List.getElem?_toArray, List.getElem?_cons_zero]
    rw [Sem.events_bind, run_underlying hu, events_underlying]
    simp only [Result.evThen_ok]
    rw [Sem.events_bind, run_getMap hp, ev_getMap hp]
    rfl
  simp only [builtin, List.map_toArray, List.map_cons, List.map_nil, e1] at he
  have he : e ∈ (Builtin.len_ ats o.type #[.map (some (E.blk b))]).events C.P w #[] := mem_map' (f := Next.value) he
  rw [e0] at he
  exact ⟨false, by simpa using he⟩

/-- an entry is written -/
theorem map_put {nx : Nat} {K : Eff → Prop} {t : TypeId} {m k x : Operand} (ho : o.op = .mapUpdate t m k x) {kt et : TypeId} (hu : C.P.underlying t = some (.map kt et)) (hk : C.P.underlying kt = some (.int .i64))
    {b : Nat} {z : Int} {cs : List CV} {es : List (Int × List CV)} (hm : ev T m = .mp b) (hz : ev T k = iv .i64 z) (hx : mvOf (ev T x) = some cs) (hb : H b = some (.mp es)) (h : K ⟨.any, [(b, some (.mp (putM es z cs)))], [], [b]⟩) : CallVC C o N T H nx K := by
  have mm : m ∈ o.op.operands := by simp [ho, Op.operands]
  have mk : k ∈ o.op.operands := by simp [ho, Op.operands]
  have mx : x ∈ o.op.operands := by simp [ho, Op.operands]
  unfold CallVC
  refine ⟨_, loc_mk fun T' H' g1 g2 E a w ht hh hf => ?_, rfl, h⟩
  obtain ⟨hU, hg, e1⟩ := rep_mp (rep_at ht (g1 m mm) hm)
  have e2 := rep_sc (rep_at ht (g1 k mk) hz)
  have e3 := mvOf_rep (rep_at ht (g1 x mx) rfl) hx
  have hB := (g2 b (by simp)).trans hb
  obtain ⟨_, ents, cl, hp, hs, hc⟩ := hh.hp b _ hB
  have hlt := (Array.getElem?_eq_some_iff.1 hp).1
  have key : ∃ ents' cl', (execOp a.eval o).run C.P w = .ok .skip { w with heap := w.heap.setIfInBounds (E.blk b) (.map ents' cl') } ∧ MapIs w E.pr (putM es z cs) ents' ∧ ∀ e ∈ (execOp a.eval o).events C.P w #[], ∃ wr, e = ⟨.obj (E.blk b), wr, false⟩ := by
    rcases findNow_map (z := z) (w := w) (pr := E.pr) (es := es) (ents := ents.toList) 0 ⟨by simpa using hs, by simpa using hc⟩ with ⟨q1, q2⟩ | ⟨j, e, ds, q1, q2, q3, q4, q5, q6⟩
    · refine ⟨ents.push { key := .int .i64 z, val := a.eval x, born := cl }, cl + 1, ?_, ⟨?_, fun i y c hi => ?_⟩, fun ev hev => ?_⟩
      · simp only [execOp, ho, Instr.mapUpdate, e1, e2]
        simp [Sem.run_bind, run_underlying hu, run_getMap hp, (run_checkKey (w := w) hk z).1, (run_findKey (w := w) hk q2).1, run_setMap _ hp]
      · rw [putM_none q1]; simp [hs]
      · rw [putM_none q1] at hi
        rw [List.getElem?_append] at hi
        split at hi
        · rename_i hil
          obtain ⟨e, f1, f2, f3⟩ := hc i y c hi
          exact ⟨e, by rw [Array.getElem?_push]; rw [if_neg (by omega)]; exact f1, f2, f3⟩
        · rename_i hil
          have : i = es.length := by
            have := (List.getElem?_eq_some_iff.1 hi).1
            simp at this; omega
          subst this
          simp only [Nat.sub_self, List.getElem?_cons_zero, Option.some.injEq, Prod.mk.injEq] at hi
          obtain ⟨rfl, rfl⟩ := hi
          exact ⟨_, by rw [Array.getElem?_push, if_pos hs.symm], rfl, e3⟩
      · simp only [execOp, ho, Instr.mapUpdate, e1, e2] at hev
        rcases mem_map' hev with hev
        rcases mem_seq hev (run_underlying hu w) with h0 | h0
        · simp [events_underlying] at h0
        rcases mem_seq h0 (run_getMap hp) with h0 | h0
        · rw [ev_getMap hp] at h0; exact ⟨_, by simpa using h0⟩
        rcases mem_seq h0 (run_checkKey (w := w) hk z).1 with h0 | h0
        · rw [(run_checkKey (w := w) hk z).2] at h0; simp at h0
        rcases mem_seq h0 (run_findKey (w := w) hk q2).1 with h0 | h0
        · rw [(run_findKey (w := w) hk q2).2] at h0; simp at h0
        rw [ev_setMap hp] at h0; exact ⟨_, by simpa using h0⟩
    · obtain ⟨p1, p2, p3⟩ := putM_some (cs := cs) q1
      have hjl : j < ents.size := by omega
      have hk' : ((ents[0 + j]?).map (·.key)).getD (.int .i64 z) = .int .i64 z := by
        have : ents[j]? = some e := by simpa using q2
        simp [this, q4]
      refine ⟨ents.modify (0 + j) fun e => { e with key := .int .i64 z, val := a.eval x }, cl, ?_, ⟨?_, fun i y c hi => ?_⟩, fun ev hev => ?_⟩
      · simp only [execOp, ho, Instr.mapUpdate, e1, e2]
        simp only [Sem.run_bind, Sem.run_map, run_underlying hu, run_getMap hp, (run_checkKey (w := w) hk z).1, (run_findKey (w := w) hk q6).1, Result.andThen_ok, hk', run_keyStays.1, run_setMap _ hp]
        simp
      · simp [hs, p1]
      · rw [p3 i] at hi
        have e0 : ents[j]? = some e := by simpa using q2
        by_cases hij : i = j
        · subst hij
          simp only [if_true, Option.some.injEq, Prod.mk.injEq] at hi
          obtain ⟨rfl, rfl⟩ := hi
          exact ⟨_, by rw [Array.getElem?_modify]; simp [e0]; rfl, rfl, e3⟩
        · rw [if_neg hij] at hi
          obtain ⟨e', f1, f2, f3⟩ := hc i y c hi
          exact ⟨e', by rw [Array.getElem?_modify]; rw [if_neg (by omega)]; exact f1, f2, f3⟩
      · simp only [execOp, ho, Instr.mapUpdate, e1, e2] at hev
        rcases mem_map' hev with hev
        rcases mem_seq hev (run_underlying hu w) with h0 | h0
        · simp [events_underlying] at h0
        rcases mem_seq h0 (run_getMap hp) with h0 | h0
        · rw [ev_getMap hp] at h0; exact ⟨_, by simpa using h0⟩
        rcases mem_seq h0 (run_checkKey (w := w) hk z).1 with h0 | h0
        · rw [(run_checkKey (w := w) hk z).2] at h0; simp at h0
        rcases mem_seq h0 (run_findKey (w := w) hk q6).1 with h0 | h0
        · rw [(run_findKey (w := w) hk q6).2] at h0; simp at h0
        simp only [hk'] at h0
        rcases mem_seq h0 run_keyStays.1 with h0 | h0
        · rw [run_keyStays.2] at h0; simp at h0
        rw [ev_setMap hp] at h0; exact ⟨_, by simpa using h0⟩
  obtain ⟨ents', cl', hrun, hm', hev⟩ := key
  have hoth : ∀ r, r ≠ E.blk b → ({ w with heap := w.heap.setIfInBounds (E.blk b) (.map ents' cl') } : World).heap[r]? = w.heap[r]? := fun r hr => by
    simp [Array.getElem?_setIfInBounds_ne (Ne.symm hr)]
  have hpr : ∀ r, E.pr r → ({ w with heap := w.heap.setIfInBounds (E.blk b) (.map ents' cl') } : World).heap[r]? = w.heap[r]? := fun r hr => hoth r fun e => (hh.un b _ hB).2 hg (e ▸ hh.prfr r hr)
  obtain ⟨k1, k2⟩ := hh.store (B' := .mp (putM es z cs)) (w' := { w with heap := w.heap.setIfInBounds (E.blk b) (.map ents' cl') }) hB hg (by simp) hoth ⟨rfl, rfl, rfl⟩ ⟨hg, ents', cl', by simp [hlt], hm'.1, fun i y c hi => by
    obtain ⟨e, f1, f2, f3⟩ := hm'.2 i y c hi
    exact ⟨e, f1, f2, f3.mono hpr fun _ h => h⟩⟩
  exact ⟨undef, _, E, .inr ⟨hrun, rfl⟩, .any _, k1, k2, fun b => by simp, .obj (by simpa using hlt) hev⟩

/-- an entry is asked for -/
theorem map_get {nx : Nat} {K : Eff → Prop} {t : TypeId} {m k : Operand} {ok : Bool} (ho : o.op = .lookup t m k ok) {kt et : TypeId} (hu : C.P.underlying t = some (.map kt et)) (hk : C.P.underlying kt = some (.int .i64))
    {b : Nat} {z : Int} {es : List (Int × List CV)} (hm : ev T m = .mp b) (hz : ev T k = iv .i64 z) (hb : H b = some (.mp es)) {r : Option (List CV)} (hr : getM es z = r) {i : TI} (hi : C.ti et = some i) {v : AV} (hv : mkVar i.agg (zeroA i) = some v)
    (h : K ⟨(match ok, r with | true, some cs => .tup [avOf cs, bv true] | true, none => .tup [v, bv false] | false, some cs => avOf cs | false, none => v), [], [], [b]⟩) : CallVC C o N T H nx K := by
  have mm : m ∈ o.op.operands := by simp [ho, Op.operands]
  have mk : k ∈ o.op.operands := by simp [ho, Op.operands]
  unfold CallVC
  refine does_val h fun T' H' g1 g2 E a w ht hh => ?_
  obtain ⟨hU, hg, e1⟩ := rep_mp (rep_at ht (g1 m mm) hm)
  have e2 := rep_sc (rep_at ht (g1 k mk) hz)
  have hB := (g2 b (by simp)).trans hb
  obtain ⟨_, ents, cl, hp, hs, hc⟩ := hh.hp b _ hB
  have hlt := (Array.getElem?_eq_some_iff.1 hp).1
  obtain ⟨z0, hz0, hzo⟩ := (C.ok _ _ hi).run_zero w
  have hzr : RepA w E v z0 := zero_rep hzo (C.ok _ _ hi).one hv
  have tup2 : ∀ {x y : AV} {u q : Value}, RepA w E x u → RepA w E y q → RepA w E (.tup [x, y]) (.tuple #[u, q]) := fun h1 h2 => .tup _ _ rfl fun k y hy => by
    match k, hy with
    | 0, hy => simp only [List.getElem?_cons_zero, Option.some.injEq] at hy; subst hy; exact h1
    | 1, hy => simp only [List.getElem?_cons_succ, List.getElem?_cons_zero, Option.some.injEq] at hy; subst hy; exact h2
  have hev : ∀ x, Instr.findNow (.int .i64) (.int .i64 z) ents.toList 0 = some x → EvOk E w w ((execOp a.eval o).events C.P w #[]) := fun x hx => EvOk.obj (r := E.blk b) hlt fun e he => by
    simp only [execOp, ho, Instr.lookup, e1, e2] at he
    rcases mem_map' he with he
    rcases mem_seq he (run_underlying hu w) with h0 | h0
    · simp [events_underlying] at h0
    rcases mem_seq h0 (run_getMap hp) with h0 | h0
    · rw [ev_getMap hp] at h0; exact ⟨_, by simpa using h0⟩
    rcases mem_seq h0 (show (pure ents : Sem (Array MapEntry)).run C.P w = Result.ok ents w from rfl) with h0 | h0
    · simp at h0
    rcases mem_seq h0 (run_checkKey (w := w) hk z).1 with h0 | h0
    · rw [(run_checkKey (w := w) hk z).2] at h0; simp at h0
    rcases mem_seq h0 (run_findKey (w := w) hk hx).1 with h0 | h0
    · rw [(run_findKey (w := w) hk hx).2] at h0; simp at h0
    cases x with
    | none =>
      rcases mem_seq h0 hz0 with h0 | h0
      · simp at h0
      · cases ok <;> simp at h0
    | some x =>
      rcases mem_seq h0 (show _ = Result.ok (x.2, true) w from rfl) with h0 | h0
      · simp at h0
      · cases ok <;> simp at h0
  rcases findNow_map (z := z) (w := w) (pr := E.pr) (es := es) (ents := ents.toList) 0 ⟨by simpa using hs, by simpa using hc⟩ with ⟨q1, q2⟩ | ⟨j, e, ds, q1, q2, q3, q4, q5, q6⟩
  · have hr0 : r = none := by
      rcases getM_idx (z := z) (es := es) with ⟨_, f2⟩ | ⟨j, cs, f1, _⟩
      · rw [← hr, f2]
      · rw [q1] at f1; cases f1
    subst hr0
    refine ⟨if ok then .tuple #[z0, .bool false] else z0, w, ?_, rfl, ?_, hev _ q2⟩
    · simp only [execOp, ho, Instr.lookup, e1, e2]
      simp only [Sem.run_bind, Sem.run_map, run_underlying hu, run_getMap hp, Result.andThen_ok, Sem.run_pure, (run_checkKey (w := w) hk z).1, (run_findKey (w := w) hk q2).1, hz0]
    · cases ok
      · exact hzr
      · exact tup2 hzr (.cv _ _ (.sc _ rfl))
  · have hr0 : r = some ds := by
      rcases getM_idx (z := z) (es := es) with ⟨f1, _⟩ | ⟨j', cs, f1, f2, f3⟩
      · rw [q1] at f1; cases f1
      · rw [q1] at f1; cases f1
        rw [q3] at f3; cases f3
        rw [← hr, f2]
    subst hr0
    refine ⟨if ok then .tuple #[e.val, .bool true] else e.val, w, ?_, rfl, ?_, hev _ q6⟩
    · simp only [execOp, ho, Instr.lookup, e1, e2]
      simp only [Sem.run_bind, Sem.run_map, run_underlying hu, run_getMap hp, Result.andThen_ok, Sem.run_pure, (run_checkKey (w := w) hk z).1, (run_findKey (w := w) hk q6).1]
    · cases ok
      · exact avOf_rep q5
      · exact tup2 (avOf_rep q5) (.cv _ _ (.sc _ rfl))
end
end Go.Proofs.YtdjoodbidcncaaaGreatDoor.AW
