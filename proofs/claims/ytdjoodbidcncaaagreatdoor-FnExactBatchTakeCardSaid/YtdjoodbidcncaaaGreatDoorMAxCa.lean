/- Goroutine 0's walk beside goroutines that only leave: a judgement without counts. -/
import Derived.Conc.Beside
import Derived.Conc.Company
import Derived.Conc.CrowdComm
import Derived.Conc.RecvAny
import Derived.Conc.CrowdCom2
import Derived.AtR
import Derived.Conc.CompanyDraw
import Derived.Conc.CompanyCalls
set_option linter.unusedVariables false
set_option linter.unusedSimpArgs false
namespace Go.Proofs.YtdjoodbidcncaaaGreatDoor.AW
open Go Go.Conc
open Go.ConcN (sumTo upd sumTo_upd upd_ne upd_same)

/-- the run from here ends well -/
def EndsF (P : Program) (Post : Value → World → Prop) (m : Machine) (t : Trace) : Prop :=
  ∃ N last o w' t', runNT P (N + 1) m t = (.ended o w', t') ∧ runN P N m = .next last ∧ step P last = .ended o w' ∧ Good P Post last o w' t'
theorem EndsF.next {P : Program} {Post : Value → World → Prop} {m m' : Machine} {t : Trace} {ops : Array MemOp} (hs : stepT P m = (.next m', ops)) (h : EndsF P Post m' (t ++ ops)) : EndsF P Post m t := by
  obtain ⟨n, last, o, w, t', h1, h2, h3, h4⟩ := h
  exact ⟨n + 1, last, o, w, t', by rw [runNT_succ_next hs]; exact h1, by rw [runN_succ_next hs]; exact h2, h3, h4⟩
theorem EndsF.now {P : Program} {Post : Value → World → Prop} {m : Machine} {t : Trace} {o : Outcome} {w : World} {ops : Array MemOp} (hs : stepT P m = (.ended o w, ops)) (h : Good P Post m o w (t ++ ops)) : EndsF P Post m t :=
  ⟨0, m, o, w, t ++ ops, by simp [runNT, hs], rfl, by simp [step, hs], h⟩

/-- goroutine 0 at g, in world w: from every frame the run ends well -/
def Ends (P : Program) (Post : Value → World → Prop) (Shun : Loc → Prop) (g : Goroutine) (w : World) : Prop :=
  ∀ gs sl t q w₁, AtRel w w₁ → gs[0]? = some g → Leavers P t gs q → Past Shun w₁.heap.size t → EndsF P Post (crowd gs w₁ sl) t
section
variable {P : Program} {Post : Value → World → Prop} {Shun : Loc → Prop}
theorem Ends.rely {g : Goroutine} {w w₁ : World} (h : Ends P Post Shun g w) (hr : AtRel w w₁) : Ends P Post Shun g w₁ := fun gs sl t q w₂ h₂ => h gs sl t q w₂ (atRel_trans _ _ _ hr h₂)

theorem awakes {gs : Array Goroutine} {a : Goroutine} {t : Trace} {q : Nat → Nat} (hrun : a.status = .running) (h0 : gs[0]? = some a) (hL : Leavers P t gs q) : ∀ g ∈ gs, awake g := by
  intro g hg
  obtain ⟨i, hi, rfl⟩ := Array.mem_iff_getElem.1 hg
  rcases Nat.eq_zero_or_pos i with rfl | hpos
  · have : gs[0] = a := by simpa [Array.getElem?_eq_getElem hi] using h0
    rw [this]; exact awake_of (.inl hrun)
  · exact awake_of ((hL.old i _ hpos (Array.getElem?_eq_getElem hi)).status.elim .inl fun x => .inr (.inr x))

/-- one move of the machine: goroutine 0's, or a leaver's -/
theorem one_move {gs : Array Goroutine} {a : Goroutine} {sl : Option (Nat × Nat)} {t : Trace} {q : Nat → Nat} {w : World} (hrun : a.status = .running) (h0 : gs[0]? = some a) (hL : Leavers P t gs q) (hP : Past Shun w.heap.size t)
    (own : ∀ d sl', stepT P (crowd gs w sl) = runT P (crowd gs (w.at d) sl') 0 → EndsF P Post (crowd gs w sl) t)
    (slip : ∀ gs' d sl' ops q', stepT P (crowd gs w sl) = (.next (crowd gs' (w.at d) sl'), ops) → gs'[0]? = some a → Leavers P (t ++ ops) gs' q' → Past Shun (w.at d).heap.size (t ++ ops) → sumTo gs'.size q' < sumTo gs.size q → EndsF P Post (crowd gs' (w.at d) sl') (t ++ ops)) :
    EndsF P Post (crowd gs w sl) t := by
  obtain ⟨i, g, d, sl', hi, hg, hst⟩ := crowd_pick (P := P) (w := w) (sl := sl) (awakes hrun h0 hL) ⟨0, a, h0, hrun⟩
  rcases Nat.eq_zero_or_pos i with rfl | hpos
  · exact own d sl' hst
  · have hq := hL.old i g hpos hi
    have hi0 : (i == 0) = false := by simp; omega
    have hlt : i < gs.size := (Array.getElem?_eq_some_iff.1 hi).1
    cases hqi : q i with
    | zero => rw [hqi] at hq; rw [hq.1] at hg; cases hg
    | succ k =>
      rw [hqi] at hq
      rcases hq with ⟨hf, _⟩ | ⟨_, g', es, hm, hstp, hq'⟩
      · rw [hf] at hg; cases hg
      have hrunT := runT_crowd_go (P := P) (sl := sl') (i := i) hi (by rw [hi0]; exact hstp (w.at d))
      have hsz : ((gs.map (woken P g g' (w.at d))).setIfInBounds i g').size = gs.size := by simp
      have hsum : sumTo gs.size (upd q i k) + (k + 1) = sumTo gs.size q + k := by
        have := sumTo_upd q k id hlt
        simpa [hqi] using this
      have hstep := hst.trans hrunT
      refine EndsF.next hstep (slip ((gs.map (woken P g g' (w.at d))).setIfInBounds i g') d sl' _ (upd q i k) hstep ?_ ⟨fun j x hj hx => ?_, fun j hj => ?_⟩ (hP.mute (by omega) hm) (by rw [hsz]; omega))
      · have hne : i ≠ 0 := by omega
        rw [Array.getElem?_setIfInBounds_ne hne, Array.getElem?_map, h0]
        simp [woken_run hrun]
      · by_cases hji : i = j
        · subst hji
          rw [Array.getElem?_setIfInBounds_self_of_lt (by simpa using hlt)] at hx
          obtain rfl := Option.some.inj hx
          rw [upd_same, Deaf_own]
          exact hq'
        · rw [Array.getElem?_setIfInBounds_ne hji, Array.getElem?_map] at hx
          obtain ⟨y, hy, rfl⟩ := Option.map_eq_some_iff.1 hx
          have hqj := hL.old j y hj hy
          rw [woken_quitsD hqj, upd_ne q k (Ne.symm hji), Deaf_other t hji _ (fun op hop => by obtain ⟨e, _, rfl⟩ := Go.Conc.mem_ofEvents hop; rfl)]
          exact hqj
      · rw [Deaf_other t (g' := i) (by simp at hj; omega) _ (fun op hop => by obtain ⟨e, _, rfl⟩ := Go.Conc.mem_ofEvents hop; rfl)]
        exact hL.above j (by simpa using hj)

/-- ████ one step of goroutine 0's own ████ -/
theorem Ends.step {g : Goroutine} {w : World} (hrun : g.status = .running)
    (h : ∀ w₁, AtRel w w₁ → ∃ g' w' es, stepG P true g w₁ = .go g' w' es ∧ w₁.heap.size ≤ w'.heap.size ∧ (∀ e ∈ es, EvL Shun w'.heap.size e) ∧ Ends P Post Shun g' w') : Ends P Post Shun g w := by
  intro gs sl t q w₁ hr h0 hL hP
  generalize hM : sumTo gs.size q = M
  induction M using Nat.strongRecOn generalizing gs sl t q w₁ with
  | _ M ih =>
    refine one_move hrun h0 hL hP (fun d sl' hst => ?_) fun gs' d sl' ops q' hst h0' hL' hP' hlt => ih _ (by omega) gs' sl' _ q' _ (atRel_trans _ _ _ hr ⟨d, rfl⟩) h0' hL' hP' rfl
    obtain ⟨g', w', es, hgo, hsz, hes, hE⟩ := h (w₁.at d) (atRel_trans _ _ _ hr ⟨d, rfl⟩)
    have hrunT := runT_crowd_go (P := P) (sl := sl') (i := 0) h0 (show stepG P (0 == 0) g (w₁.at d) = _ from hgo)
    have hlt : 0 < gs.size := (Array.getElem?_eq_some_iff.1 h0).1
    refine EndsF.next (hst.trans hrunT) (hE _ _ _ q _ (atRel_refl _) (by simp [hlt]) ⟨fun j x hj hx => ?_, fun j hj => ?_⟩ ((hP.mono hsz).own hes))
    · have hne : 0 ≠ j := by omega
      rw [Array.getElem?_setIfInBounds_ne hne, Array.getElem?_map] at hx
      obtain ⟨y, hy, rfl⟩ := Option.map_eq_some_iff.1 hx
      have hq := hL.old j y hj hy
      rw [woken_quitsD hq, Deaf_other t (by omega) _ (fun op hop => by obtain ⟨e, _, rfl⟩ := Go.Conc.mem_ofEvents hop; rfl)]
      exact hq
    · rw [Deaf_other t (g' := 0) (by simp at hj; omega) _ (fun op hop => by obtain ⟨e, _, rfl⟩ := Go.Conc.mem_ofEvents hop; rfl)]
      exact hL.above j (by simpa using hj)

/-- ████ one communication of goroutine 0's own ████ -/
theorem Ends.comm {g : Goroutine} {w : World} (hrun : g.status = .running)
    (h : ∀ w₁, AtRel w w₁ → ∃ g' w' es ops, (∀ gs sl, gs[0]? = some g → (∀ j x, 0 < j → gs[j]? = some x → x.status ≠ .blocked) → runT P (crowd gs w₁ sl) 0 = (.next (crowd (gs.setIfInBounds 0 g') w' sl), MemOp.ofEvents 0 g.frame.fn g.frame.place es ++ ops)) ∧
      w₁.heap.size ≤ w'.heap.size ∧ (∀ e ∈ es, EvL Shun w'.heap.size e) ∧ (∀ op ∈ ops, op.g = 0 ∧ op.act.touch? = none ∧ op.act.low w'.heap.size ∧ op.act ≠ .mark .disable ∧ op.act ≠ .mark .enable) ∧ Ends P Post Shun g' w') : Ends P Post Shun g w := by
  intro gs sl t q w₁ hr h0 hL hP
  generalize hM : sumTo gs.size q = M
  induction M using Nat.strongRecOn generalizing gs sl t q w₁ with
  | _ M ih =>
    refine one_move hrun h0 hL hP (fun d sl' hst => ?_) fun gs' d sl' ops q' hst h0' hL' hP' hlt => ih _ (by omega) gs' sl' _ q' _ (atRel_trans _ _ _ hr ⟨d, rfl⟩) h0' hL' hP' rfl
    obtain ⟨g', w', es, ops, hgo, hsz, hes, hops, hE⟩ := h (w₁.at d) (atRel_trans _ _ _ hr ⟨d, rfl⟩)
    have hrunT := hgo gs sl' h0 fun j x hj hx => by
      have := (hL.old j x hj hx).status
      intro hb
      rcases this with h1 | h1 <;> rw [hb] at h1 <;> cases h1
    have hlt : 0 < gs.size := (Array.getElem?_eq_some_iff.1 h0).1
    have hall : ∀ op ∈ MemOp.ofEvents 0 g.frame.fn g.frame.place es ++ ops, op.g = 0 := fun op hop => by
      rcases Array.mem_append.1 hop with h1 | h1
      · obtain ⟨e, _, rfl⟩ := Go.Conc.mem_ofEvents h1; rfl
      · exact (hops op h1).1
    refine EndsF.next (hst.trans hrunT) (hE _ _ _ q _ (atRel_refl _) (by simp [hlt]) ⟨fun j x hj hx => ?_, fun j hj => ?_⟩ ?_)
    · rw [Array.getElem?_setIfInBounds_ne (by omega)] at hx
      have hq := hL.old j x hj hx
      rw [Deaf_other t (g := j) (g' := 0) (by omega) _ hall]
      exact hq
    · rw [Deaf_other t (g := j) (g' := 0) (by simp at hj; omega) _ hall]
      exact hL.above j (by simpa using hj)
    · rw [← Array.append_assoc]
      refine ((hP.mono hsz).own hes).app0 (fun op hop => (hops op hop).1) (fun op hop b hb => by rw [(hops op hop).2.1] at hb; cases hb) ?_ fun op hop => (hops op hop).2.2.1
      exact Go.ConcN.Deaf_still _ 0 _ fun op hop => (hops op hop).2.2.2

/-- the return -/
theorem Ends.done {g : Goroutine} {w : World} (hrun : g.status = .running)
    (h : ∀ w₁, AtRel w w₁ → ∃ v es, stepG P true g w₁ = .ended (.done v) w₁ es ∧ (∀ e ∈ es, EvL Shun w₁.heap.size e) ∧ Post v w₁) : Ends P Post Shun g w := by
  intro gs sl t q w₁ hr h0 hL hP
  generalize hM : sumTo gs.size q = M
  induction M using Nat.strongRecOn generalizing gs sl t q w₁ with
  | _ M ih =>
    refine one_move hrun h0 hL hP (fun d sl' hst => ?_) fun gs' d sl' ops q' hst h0' hL' hP' hlt => ih _ (by omega) gs' sl' _ q' _ (atRel_trans _ _ _ hr ⟨d, rfl⟩) h0' hL' hP' rfl
    obtain ⟨v, es, hend, hes, hpost⟩ := h (w₁.at d) (atRel_trans _ _ _ hr ⟨d, rfl⟩)
    have hrunT := runT_many_ended (P := P) (sl := sl') (i := 0) h0 (show stepG P (0 == 0) g (w₁.at d) = _ from hend)
    have hP' := hP.own (fn := g.frame.fn) (pos := g.frame.place) hes
    refine EndsF.now (hst.trans hrunT) ⟨v, rfl, hpost, hP'.clean, hP'.over, ⟨fun x hx => ?_, rfl⟩, fun j x hx hj => ?_⟩
    · obtain ⟨j, hj⟩ := List.mem_iff_getElem?.1 hx
      rw [List.getElem?_drop] at hj
      exact ⟨_, (hL.old (1 + j) x (by omega) (by simpa [crowd] using hj)).leaves⟩
    · have hq := hL.old j x (by omega) hx
      refine ⟨q j, ?_⟩
      have e : (t ++ MemOp.ofEvents 0 g.frame.fn g.frame.place es).deaf j (t ++ MemOp.ofEvents 0 g.frame.fn g.frame.place es).size = Deaf t j :=
        Deaf_other t (g := j) (g' := 0) (by omega) _ (fun op hop => by obtain ⟨e, _, rfl⟩ := Go.Conc.mem_ofEvents hop; rfl)
      rw [e]
      exact hq.hears _
end
end Go.Proofs.YtdjoodbidcncaaaGreatDoor.AW

/- A goroutine's own steps in a frame that may be a round's. -/
namespace Go.Proofs.YtdjoodbidcncaaaGreatDoor.AW
open Go Go.Conc
section
variable {P : Program} {main : Bool} {b : Frame} {a : Act} {k : List Item} {cs : List Frame} {w : World}
theorem evalR (b : Frame) (a : Act) (todo : List Item) : (b.atR a todo).eval = a.eval := by funext x; cases x <;> rfl
theorem finishR {ops : Array Oper} {i : Nat} {rest : List Nat} {o : Oper} (ho : ops[i]? = some o) (v : Value) : (b.atR a (.inRegion ops (i :: rest) :: k)).finish v = b.atR (a.put o.dst v) (.inRegion ops rest :: k) := by
  cases hd : o.dst <;> simp [Frame.finish, Frame.atR, Act.put, ho, hd]
theorem sR_skip : stepG P main (G (b.atR a (.code .skip :: k)) cs) w = .go (G (b.atR a k) cs) w := by simp [G, stepG, stepG.exec, Frame.atR]
theorem sR_label {l : Nat} : stepG P main (G (b.atR a (.code (.label l) :: k)) cs) w = .go (G (b.atR a k) cs) w := by simp [G, stepG, stepG.exec, Frame.atR]
theorem sR_inBlock {id : Nat} : stepG P main (G (b.atR a (.inBlock id :: k)) cs) w = .go (G (b.atR a k) cs) w := by simp [G, stepG, stepG.exec, Frame.atR]
theorem sR_seq {x y : Code} : stepG P main (G (b.atR a (.code (.seq x y) :: k)) cs) w = .go (G (b.atR a (.code x :: .code y :: k)) cs) w := by simp [G, stepG, stepG.exec, Frame.atR]
theorem sR_cond {c : Operand} {x y : Code} {t : Bool} (h : a.eval c = .bool t) :
    stepG P main (G (b.atR a (.code (.cond c x y) :: k)) cs) w = .go (G (b.atR a (.code (if t then x else y) :: k)) cs) w := by
  have h' : (b.atR a (.code (.cond c x y) :: k)).eval c = .bool t := by rw [evalR]; exact h
  simp only [Frame.atR] at h'
  simp [G, stepG, stepG.exec, Frame.atR, h']
theorem sR_block {id : Nat} {c : Code} : stepG P main (G (b.atR a (.code (.block id c) :: k)) cs) w = .go (G (b.atR a (.code c :: .inBlock id :: k)) cs) w := by simp [G, stepG, stepG.exec, Frame.atR]
theorem sR_loop {c : Code} : stepG P main (G (b.atR a (.code (.loop c) :: k)) cs) w = .go (G (b.atR a (.code c :: .inLoop c :: k)) cs) w := by simp [G, stepG, stepG.exec, Frame.atR]
theorem sR_inLoop {c : Code} : stepG P main (G (b.atR a (.inLoop c :: k)) cs) w = .go (G (b.atR a (.code c :: .inLoop c :: k)) cs) w := by simp [G, stepG, stepG.exec, Frame.atR]
theorem sR_exit {id : Nat} {k' : List Item} (h : exitTo id k = some k') : stepG P main (G (b.atR a (.code (.exit id) :: k)) cs) w = .go (G (b.atR a k') cs) w := by simp [G, stepG, stepG.exec, Frame.atR, h]
theorem sR_region {id : Nat} {ops : Array Oper} : stepG P main (G (b.atR a (.code (.region id ops false) :: k)) cs) w = .go (G (b.atR a (.inRegion ops (List.range ops.size) :: k)) cs) w := by simp [G, stepG, stepG.exec, Frame.atR]
theorem sR_region_draw {id : Nat} {ops : Array Oper} : stepG P main (G (b.atR a (.code (.region id ops true) :: k)) cs) w = .go (G (b.atR a (.inRegion ops (Region.schedule (P.follows .mixedOrders) ops (w.tape w.drawn (.order b.fn id))) :: k)) cs) { w with drawn := w.drawn + 1 } := by
  simp [G, stepG, stepG.exec, Frame.atR, choose, Sem.run, Question.forced, Question.cut]
theorem sR_region_end {ops : Array Oper} : stepG P main (G (b.atR a (.inRegion ops [] :: k)) cs) w = .go (G (b.atR a k) cs) w := by simp [G, stepG, stepG.exec, Frame.atR]
theorem sR_unwanted {ops : Array Oper} {i : Nat} {rest : List Nat} {o : Oper} (ho : ops[i]? = some o) (hw : Region.wanted o (yielded ops a.tmps) = false) :
    stepG P main (G (b.atR a (.inRegion ops (i :: rest) :: k)) cs) w = .go (G (b.atR (a.put o.dst undef) (.inRegion ops rest :: k)) cs) w #[] := by
  rw [← finishR ho]
  simp [G, stepG, stepG.exec, Frame.atR, ho, hw]
/-- a deferring operation does nothing else -/
theorem no_defer {ρ : Operand → Value} {o : Oper} {n : Next} {w w' : World} (hr : (execOp ρ o).run P w = .ok n w') (hn : ∀ d, n ≠ .defer d) (c : Call) : o.op ≠ .defer c := fun h => by
  simp only [execOp, h, Sem.run_bind, Sem.run_map] at hr
  cases h1 : (resolve ρ c o.type).run P w with
  | halt x w2 => rw [h1] at hr; cases hr
  | ok d w2 =>
    rw [h1] at hr
    simp only [Result.andThen_ok, Sem.run_pure] at hr
    cases hr
    exact hn _ rfl
theorem sR_oper {ops : Array Oper} {i : Nat} {rest : List Nat} {o : Oper} (ho : ops[i]? = some o) (hw : Region.wanted o (yielded ops a.tmps) = true) (hd : ∀ c, o.op ≠ .defer c) :
    stepG P main (G (b.atR a (.inRegion ops (i :: rest) :: k)) cs) w = stepG.apply P true (b.atR a (.inRegion ops (i :: rest) :: k)) cs none (execOp a.eval o) w := by
  have he := evalR b a (.inRegion ops (i :: rest) :: k)
  have hop : (b.atR a (.inRegion ops (i :: rest) :: k)).oper? = some o := by simp [Frame.oper?, Frame.atR, ho]
  have h1 : stepG P main (G (b.atR a (.inRegion ops (i :: rest) :: k)) cs) w = stepG.oper P true (b.atR a (.inRegion ops (i :: rest) :: k)) cs none w := by
    simp [G, stepG, stepG.exec, Frame.atR, ho, hw]
  rw [h1]
  unfold stepG.oper
  rw [hop, he]
  split
  · rename_i h; cases h
  · rename_i o' h
    cases h
    split
    · rename_i l c _ hc; exact absurd hc (hd c)
    · rfl
theorem sR_value {ops : Array Oper} {i : Nat} {rest : List Nat} {o : Oper} {v : Value} {w' : World} (ho : ops[i]? = some o) (hw : Region.wanted o (yielded ops a.tmps) = true)
    (hk : b.kind ≠ .early) (hr : (execOp a.eval o).run P w = .ok (.value v) w') :
    stepG P main (G (b.atR a (.inRegion ops (i :: rest) :: k)) cs) w = .go (G (b.atR (a.put o.dst v) (.inRegion ops rest :: k)) cs) w' (listed P b.fn a o w) := by
  have hk' : (b.kind == CallKind.early) = false := by simpa using hk
  rw [sR_oper ho hw (no_defer hr (by simp)), ← finishR ho]
  simp [stepG.apply, hr, G, Frame.atR, hk', GStep.after, listed]
theorem sR_none {ops : Array Oper} {i : Nat} {rest : List Nat} {o : Oper} {w' : World} (ho : ops[i]? = some o) (hw : Region.wanted o (yielded ops a.tmps) = true)
    (hk : b.kind ≠ .early) (hr : (execOp a.eval o).run P w = .ok .skip w') :
    stepG P main (G (b.atR a (.inRegion ops (i :: rest) :: k)) cs) w = .go (G (b.atR (a.put o.dst undef) (.inRegion ops rest :: k)) cs) w' (listed P b.fn a o w) := by
  have hk' : (b.kind == CallKind.early) = false := by simpa using hk
  rw [sR_oper ho hw (no_defer hr (by simp)), ← finishR ho]
  simp [stepG.apply, hr, G, Frame.atR, hk', GStep.after, listed]
theorem sR_comm {ops : Array Oper} {i : Nat} {rest : List Nat} {o : Oper} {cases : Array CommCase} {blocking : Bool} {shape : CommShape} {w' : World} (ho : ops[i]? = some o) (hw : Region.wanted o (yielded ops a.tmps) = true)
    (hk : b.kind ≠ .early) (hr : (execOp a.eval o).run P w = .ok (.comm cases blocking shape) w') :
    stepG P main (G (b.atR a (.inRegion ops (i :: rest) :: k)) cs) w = .comm (G (b.atR a (.inRegion ops (i :: rest) :: k)) cs) cases blocking shape w' (listed P b.fn a o w) := by
  have hk' : (b.kind == CallKind.early) = false := by simpa using hk
  rw [sR_oper ho hw (no_defer hr (by simp))]
  simp [stepG.apply, hr, G, Frame.atR, hk', GStep.after, listed]
theorem sR_enter {ops : Array Oper} {i : Nat} {rest : List Nat} {o : Oper} {f : FuncId} {args : Array Value} {w' : World} (ho : ops[i]? = some o) (hw : Region.wanted o (yielded ops a.tmps) = true)
    (hk : b.kind ≠ .early) (hr : (execOp a.eval o).run P w = .ok (.enter f args) w') :
    stepG P main (G (b.atR a (.inRegion ops (i :: rest) :: k)) cs) w = .go (G (Frame.enter P f args .normal) (b.atR a (.inRegion ops (i :: rest) :: k) :: cs)) w' (listed P b.fn a o w) := by
  have hk' : (b.kind == CallKind.early) = false := by simpa using hk
  rw [sR_oper ho hw (no_defer hr (by simp))]
  simp [stepG.apply, hr, G, Frame.atR, hk', GStep.after, listed]
/-- a call of yield: a round begins -/
theorem sR_round {ops : Array Oper} {i : Nat} {rest : List Nat} {o : Oper} {l : Nat} {f : FuncId} {ts : Array Value} {asg body : Code} {w' : World} (ho : ops[i]? = some o) (hw : Region.wanted o (yielded ops a.tmps) = true)
    (hk : b.kind ≠ .early) (hr : (execOp a.eval o).run P w = .ok (.round l f ts asg body) w') :
    stepG P main (G (b.atR a (.inRegion ops (i :: rest) :: k)) cs) w = .go (G (Frame.round l f ts asg body .normal) (b.atR a (.inRegion ops (i :: rest) :: k) :: cs)) w' (listed P b.fn a o w) := by
  have hk' : (b.kind == CallKind.early) = false := by simpa using hk
  rw [sR_oper ho hw (no_defer hr (by simp))]
  simp [stepG.apply, hr, G, Frame.atR, hk', GStep.after, listed]
end
end Go.Proofs.YtdjoodbidcncaaaGreatDoor.AW

/- Code beside goroutines that only leave: the rules, without counts. -/
namespace Go.Proofs.YtdjoodbidcncaaaGreatDoor.AW
open Go Go.Conc

abbrev Sh : Type := Loc → Prop
/-- where it goes on behind a piece of code -/
def AfterE (P : Program) (Post : Value → World → Prop) (S : Sh) (b : Frame) (k : List Item) (cs : List Frame) : Exit → Act → World → Prop
  | .normal, a, w => Ends P Post S (G (b.atR a k) cs) w
  | .exit id, a, w => ∃ k', exitTo id k = some k' ∧ Ends P Post S (G (b.atR a k') cs) w
  | .ret, a, w => ∀ todo, Ends P Post S (G (b.atR a (.code .ret :: todo)) cs) w
  | _, _, _ => False
section
variable {P : Program} {Post : Value → World → Prop}
theorem AfterE.push {S : Sh} {b : Frame} {x : Item} {k : List Item} {cs : List Frame} {e : Exit} {a : Act} {w : World} (hx : x.plain = true) (he : e ≠ .normal) (h : AfterE P Post S b k cs e a w) : AfterE P Post S b (x :: k) cs e a w := by
  cases e with
  | normal => exact absurd rfl he
  | exit id => obtain ⟨k', hk, hg⟩ := h; exact ⟨k', by cases x <;> simp_all [exitTo, Item.plain], hg⟩
  | ret => exact h
  | goto l => exact h
  | panic ch => exact h
  | outgrown => exact h
end
/-- a function that may be a round's -/
def Rnd (P : Program) (fn : FuncId) : Prop := ∀ f, P.funcs[fn]? = some f → (f.name == "loop.example/scrutineer/impl.each") = false
/-- a frame of a function's -/
abbrev FrmOk (P : Program) (b : Frame) : Prop := b.kind ≠ .early ∧ (b.roundOf = none ∨ Rnd P b.fn)
/-- ████ the judgement ████ -/
def wpE (P : Program) (fn : FuncId) (c : Code) (Q : Exit → Act → World → Sh → Prop) (a : Act) (w : World) (S : Sh) : Prop :=
  ∀ (Post : Value → World → Prop) (b : Frame) (k : List Item) (cs : List Frame), b.fn = fn → FrmOk P b →
    (∀ e a' w' S', Q e a' w' S' → AfterE P Post S' b k cs e a' w') → Ends P Post S (G (b.atR a (.code c :: k)) cs) w
/-- the operations of a region that are still to come -/
def opsE (P : Program) (fn : FuncId) (ops : Array Oper) (todo : List Nat) (Q : Exit → Act → World → Sh → Prop) (a : Act) (w : World) (S : Sh) : Prop :=
  ∀ (Post : Value → World → Prop) (b : Frame) (k : List Item) (cs : List Frame), b.fn = fn → FrmOk P b →
    (∀ e a' w' S', Q e a' w' S' → AfterE P Post S' b k cs e a' w') → Ends P Post S (G (b.atR a (.inRegion ops todo :: k)) cs) w
section rules
variable {P : Program} {fn : FuncId} {Q : Exit → Act → World → Sh → Prop} {a : Act} {w : World} {S : Sh}
theorem quiet {Post : Value → World → Prop} {g g' : Goroutine} (hs : g.status = .running) (h : ∀ w₁, stepG P true g w₁ = .go g' w₁ #[]) (he : Ends P Post S g' w) : Ends P Post S g w :=
  Ends.step hs fun w₁ h₁ => ⟨g', w₁, #[], h w₁, Nat.le_refl _, by simp, he.rely h₁⟩
theorem wpE_mono {c : Code} {Q' : Exit → Act → World → Sh → Prop} (h : wpE P fn c Q a w S) (hq : ∀ e a w S, Q e a w S → Q' e a w S) : wpE P fn c Q' a w S :=
  fun Post b k cs hb hk hc => h Post b k cs hb hk fun e a' w' S' q => hc e a' w' S' (hq e a' w' S' q)
theorem opsE_rely {ops : Array Oper} {todo : List Nat} {w₁ : World} (h : opsE P fn ops todo Q a w S) (hr : AtRel w w₁) : opsE P fn ops todo Q a w₁ S := fun Post b k cs hb hk hc => (h Post b k cs hb hk hc).rely hr
theorem wpE_skip (h : Q .normal a w S) : wpE P fn .skip Q a w S := fun Post b k cs _ _ hc => quiet rfl (fun _ => sR_skip) (hc _ _ _ _ h)
theorem wpE_label {l : Nat} (h : Q .normal a w S) : wpE P fn (.label l) Q a w S := fun Post b k cs _ _ hc => quiet rfl (fun _ => sR_label) (hc _ _ _ _ h)
theorem wpE_ret (h : Q .ret a w S) : wpE P fn .ret Q a w S := fun Post b k cs _ _ hc => hc _ _ _ _ h k
theorem wpE_exit {id : Nat} (h : Q (.exit id) a w S) : wpE P fn (.exit id) Q a w S := fun Post b k cs _ _ hc => by
  obtain ⟨k', hk', hg⟩ := hc _ _ _ _ h
  exact quiet rfl (fun _ => sR_exit hk') hg
def ThenE (K : Act → World → Sh → Prop) (Q : Exit → Act → World → Sh → Prop) : Exit → Act → World → Sh → Prop
  | .normal => K
  | e => Q e
theorem wpE_seq {x y : Code} (h : wpE P fn x (ThenE (fun a' w' S' => wpE P fn y Q a' w' S') Q) a w S) : wpE P fn (.seq x y) Q a w S := by
  intro Post b k cs hb hk hc
  refine quiet rfl (fun _ => sR_seq) (h Post b (.code y :: k) cs hb hk fun e a' w' S' q => ?_)
  cases e with
  | normal => exact q Post b k cs hb hk hc
  | exit id => exact (hc _ _ _ _ q).push rfl (by simp)
  | ret => exact (hc _ _ _ _ q).push (x := .code y) rfl (by simp)
  | goto l => exact hc _ _ _ _ q
  | panic ch => exact hc _ _ _ _ q
  | outgrown => exact hc _ _ _ _ q
theorem wpE_cond {c : Operand} {x y : Code} {t : Bool} (hc : a.eval c = .bool t) (h : wpE P fn (if t then x else y) Q a w S) : wpE P fn (.cond c x y) Q a w S :=
  fun Post b k cs hb hk hq => quiet rfl (fun _ => sR_cond hc) (h Post b k cs hb hk hq)
def BlockE (id : Nat) (Q : Exit → Act → World → Sh → Prop) : Exit → Act → World → Sh → Prop
  | .exit id' => if id' = id then Q .normal else Q (.exit id')
  | e => Q e
theorem wpE_block {id : Nat} {c : Code} (h : wpE P fn c (BlockE id Q) a w S) : wpE P fn (.block id c) Q a w S := by
  intro Post b k cs hb hk hc
  refine quiet rfl (fun _ => sR_block) (h Post b (.inBlock id :: k) cs hb hk fun e a' w' S' q => ?_)
  cases e with
  | normal => exact quiet rfl (fun _ => sR_inBlock) (hc _ _ _ _ q)
  | exit id' =>
    by_cases hid : id' = id
    · simp only [BlockE, hid, if_true] at q
      exact ⟨k, by simp [exitTo, hid], hc _ _ _ _ q⟩
    · simp only [BlockE, hid, if_false] at q
      obtain ⟨k', hk', hg⟩ := hc _ _ _ _ q
      have : (id == id') = false := by simp; exact fun h => hid h.symm
      exact ⟨k', by simp [exitTo, this, hk'], hg⟩
  | ret => exact fun todo => hc _ _ _ _ q todo
  | goto l => exact hc _ _ _ _ q
  | panic ch => exact hc _ _ _ _ q
  | outgrown => exact hc _ _ _ _ q
theorem wpE_loop {c : Code} {X : Type} (J : X → Act → World → Sh → Prop) (μ : X → Nat) (x₀ : X) (h₀ : J x₀ a w S)
    (round : ∀ x a w S, J x a w S → wpE P fn c (ThenE (fun a' w' S' => ∃ x', J x' a' w' S' ∧ μ x' < μ x) Q) a w S) : wpE P fn (.loop c) Q a w S := by
  intro Post b k cs hb hk hc
  have key : ∀ n x a w S, μ x = n → J x a w S → Ends P Post S (G (b.atR a (.code c :: .inLoop c :: k)) cs) w := by
    intro n
    induction n using Nat.strongRecOn with
    | _ n ih =>
      intro x a w S hn hJ
      refine round x a w S hJ Post b (.inLoop c :: k) cs hb hk fun e a' w' S' q => ?_
      cases e with
      | normal =>
        obtain ⟨x', hJ', hlt⟩ := q
        exact quiet rfl (fun _ => sR_inLoop) (ih _ (by omega) x' a' w' S' rfl hJ')
      | exit id => exact (hc _ _ _ _ q).push rfl (by simp)
      | ret => exact (hc _ _ _ _ q).push (x := .inLoop c) rfl (by simp)
      | goto l => exact hc _ _ _ _ q
      | panic ch => exact hc _ _ _ _ q
      | outgrown => exact hc _ _ _ _ q
  exact quiet rfl (fun _ => sR_loop) (key _ x₀ a w S rfl h₀)
theorem wpE_region {id : Nat} {ops : Array Oper} (h : opsE P fn ops (List.range ops.size) Q a w S) : wpE P fn (.region id ops false) Q a w S :=
  fun Post b k cs hb hk hc => quiet rfl (fun _ => sR_region) (h Post b k cs hb hk hc)
theorem wpE_region_draw {id : Nat} {ops : Array Oper} (h : ∀ t, opsE P fn ops (Region.schedule (P.follows .mixedOrders) ops t) Q a w S) : wpE P fn (.region id ops true) Q a w S :=
  fun Post b k cs hb hk hc => Ends.step rfl fun w₁ h₁ => ⟨_, _, #[], sR_region_draw, Nat.le_refl _, by simp, (h _ Post b k cs hb hk hc).rely (atRel_trans _ _ _ h₁ ⟨w₁.drawn + 1, rfl⟩)⟩
theorem opsE_nil {ops : Array Oper} (h : Q .normal a w S) : opsE P fn ops [] Q a w S := fun Post b k cs _ _ hc => quiet rfl (fun _ => sR_region_end) (hc _ _ _ _ h)
theorem opsE_unwanted {ops : Array Oper} {i : Nat} {rest : List Nat} {o : Oper} (ho : ops[i]? = some o) (hw : Region.wanted o (yielded ops a.tmps) = false) (h : opsE P fn ops rest Q (a.put o.dst undef) w S) : opsE P fn ops (i :: rest) Q a w S :=
  fun Post b k cs hb hk hc => quiet rfl (fun _ => sR_unwanted ho hw) (h Post b k cs hb hk hc)
/-- one operation that yields a value, or nothing -/
theorem opsE_value {ops : Array Oper} {i : Nat} {rest : List Nat} {o : Oper} (ho : ops[i]? = some o) (hw : Region.wanted o (yielded ops a.tmps) = true)
    (h : ∀ w₁, AtRel w w₁ → ∃ u w', ((execOp a.eval o).run P w₁ = .ok (.value u) w' ∨ ((execOp a.eval o).run P w₁ = .ok .skip w' ∧ u = undef)) ∧ w₁.heap.size ≤ w'.heap.size ∧ (∀ e ∈ listed P fn a o w₁, EvL S w'.heap.size e) ∧ opsE P fn ops rest Q (a.put o.dst u) w' S) : opsE P fn ops (i :: rest) Q a w S := by
  intro Post b k cs hb hk hc
  subst hb
  refine Ends.step rfl fun w₁ h₁ => ?_
  obtain ⟨u, w', hr, hsz, hes, hn⟩ := h w₁ h₁
  rcases hr with hr | ⟨hr, rfl⟩
  · exact ⟨_, w', _, sR_value ho hw hk.1 hr, hsz, hes, hn Post b k cs rfl hk hc⟩
  · exact ⟨_, w', _, sR_none ho hw hk.1 hr, hsz, hes, hn Post b k cs rfl hk hc⟩
end rules
end Go.Proofs.YtdjoodbidcncaaaGreatDoor.AW

/- Calls beside goroutines that only leave. -/
namespace Go.Proofs.YtdjoodbidcncaaaGreatDoor.AW
open Go Go.Conc

section
variable {P : Program} {main : Bool} {b : Frame} {a : Act} {cs : List Frame} {w : World}
/-- a function is left; what its results read is listed -/
theorem stepG_leaveE {fn : Func} {todo : List Item} {c : Frame} {v : Value} (hn : b.kind = .normal) (hd : a.defers = []) (hf : P.funcs[b.fn]? = some fn) (hr : (results fn a.tmps).run P w = .ok v w) :
    stepG P main (G { b.at a todo with mode := .returning } (c :: cs)) w = .go (G (c.finish v) cs) w (seen P b.fn ((results fn a.tmps).events P w #[])) := by
  simp [G, stepG, unwind, doReturn, Frame.at, hn, hd, hf, hr, GStep.after]
/-- the outermost function is left: the run ends -/
theorem stepG_lastE {fn : Func} {todo : List Item} {v : Value} (hn : b.kind = .normal) (hd : a.defers = []) (hi : P.inits.idxOf? b.fn = none) (hf : P.funcs[b.fn]? = some fn) (hr : (results fn a.tmps).run P w = .ok v w) :
    stepG P true (G { b.at a todo with mode := .returning } []) w = .ended (.done v) w (seen P b.fn ((results fn a.tmps).events P w #[])) := by
  simp [G, stepG, unwind, doReturn, Frame.at, hn, hd, hf, hr, hi, GStep.after]
end

/-- ████ a contract beside leavers: from the entry, whoever calls, to the return ████ -/
def CallsE (P : Program) (f : FuncId) (args : Array Value) (w : World) (S : Sh) (R : Value → World → Sh → Prop) : Prop :=
  ∀ (Post : Value → World → Prop) (c : Frame) (cs : List Frame), (∀ v w' S', R v w' S' → Ends P Post S' (G (c.finish v) cs) w') → Ends P Post S (G (Frame.enter P f args .normal) (c :: cs)) w
theorem CallsE.mono {P : Program} {f : FuncId} {args : Array Value} {w : World} {S : Sh} {R R' : Value → World → Sh → Prop} (h : CallsE P f args w S R) (hr : ∀ v w S, R v w S → R' v w S) : CallsE P f args w S R' :=
  fun Post c cs hc => h Post c cs fun v w' S' q => hc v w' S' (hr v w' S' q)
theorem CallsE.rely {P : Program} {f : FuncId} {args : Array Value} {w w₁ : World} {S : Sh} {R : Value → World → Sh → Prop} (h : CallsE P f args w S R) (hr : AtRel w w₁) : CallsE P f args w₁ S R := fun Post c cs hc => (h Post c cs hc).rely hr

/-- what the body must achieve -/
def BodyE (P : Program) (f : FuncId) (fn : Func) (R : Value → World → Sh → Prop) : Exit → Act → World → Sh → Prop
  | .normal, a, w, S | .ret, a, w, S => a.defers = [] ∧ ∀ w₁, AtRel w w₁ → ∃ v, (results fn a.tmps).run P w₁ = .ok v w₁ ∧ (∀ e ∈ seen P f ((results fn a.tmps).events P w₁ #[]), EvL S w₁.heap.size e) ∧ R v w₁ S
  | _, _, _, _ => False
section
variable {P : Program} {f : FuncId} {fn : Func} {c : Code} {args : Array Value} {w : World} {S : Sh}
theorem enterE {Post : Value → World → Prop} {R : Value → World → Sh → Prop} (hf : P.funcs[f]? = some fn) (hb : fn.body = some c) {cs : List Frame}
    (h : wpE P f c (BodyE P f fn R) { tmps := args ++ Array.replicate (fn.ntmps - args.size) undef, defers := [] } w S)
    (leave : ∀ a' w' S' todo, BodyE P f fn R .ret a' w' S' → Ends P Post S' (G { (base f).at a' todo with mode := .returning } cs) w') : Ends P Post S (G (Frame.enter P f args .normal) cs) w := by
  rw [enter_at _ hf hb, ← Frame.atR_of_none (show (base f).roundOf = none from rfl)]
  refine h Post (base f) [] cs rfl ⟨by simp [base], .inl rfl⟩ fun e a' w' S' q => ?_
  cases e with
  | normal =>
    show Ends P Post S' (G ((base f).atR a' []) cs) w'
    rw [Frame.atR_of_none (show (base f).roundOf = none from rfl)]
    exact quiet rfl (fun _ => stepG_end) (leave a' w' S' [] q)
  | ret =>
    intro todo
    rw [Frame.atR_of_none (show (base f).roundOf = none from rfl)]
    exact quiet rfl (fun _ => stepG_ret') (leave a' w' S' _ q)
  | exit id => exact q.elim
  | goto l => exact q.elim
  | panic ch => exact q.elim
  | outgrown => exact q.elim
theorem callsE_of_wpE {R : Value → World → Sh → Prop} (hf : P.funcs[f]? = some fn) (hb : fn.body = some c)
    (h : wpE P f c (BodyE P f fn R) { tmps := args ++ Array.replicate (fn.ntmps - args.size) undef, defers := [] } w S) : CallsE P f args w S R := fun Post c cs hc => by
  refine enterE hf hb h fun a' w' S' todo q => Ends.step rfl fun w₁ h₁ => ?_
  obtain ⟨hd, hq⟩ := q
  obtain ⟨v, hr, hes, hR⟩ := hq w₁ h₁
  exact ⟨_, w₁, _, stepG_leaveE (b := base f) rfl hd hf hr, Nat.le_refl _, hes, hc v w₁ S' hR⟩
/-- the outermost call -/
theorem ends_of_wpE {Post : Value → World → Prop} (hi : P.inits.idxOf? f = none) (hf : P.funcs[f]? = some fn) (hb : fn.body = some c)
    (h : wpE P f c (BodyE P f fn fun v w _ => Post v w) { tmps := args ++ Array.replicate (fn.ntmps - args.size) undef, defers := [] } w S) : Ends P Post S (G (Frame.enter P f args .normal) []) w := by
  refine enterE hf hb h fun a' w' S' todo q => Ends.done rfl fun w₁ h₁ => ?_
  obtain ⟨hd, hq⟩ := q
  obtain ⟨v, hr, hes, hR⟩ := hq w₁ h₁
  exact ⟨v, _, stepG_lastE (b := base f) rfl hd hi hf hr, hes, hR⟩
/-- through a call -/
theorem opsE_call {g : FuncId} {Q : Exit → Act → World → Sh → Prop} {a : Act} {ops : Array Oper} {i : Nat} {rest : List Nat} {o : Oper} {R : Value → World → Sh → Prop} (ho : ops[i]? = some o) (hw : Region.wanted o (yielded ops a.tmps) = true)
    (hrun : ∀ w₁, AtRel w w₁ → (execOp a.eval o).run P w₁ = .ok (.enter f args) w₁ ∧ ∀ e ∈ listed P g a o w₁, EvL S w₁.heap.size e) (hcall : CallsE P f args w S R)
    (hnext : ∀ v w' S', R v w' S' → opsE P g ops rest Q (a.put o.dst v) w' S') : opsE P g ops (i :: rest) Q a w S := by
  intro Post b k cs hb hk hc
  subst hb
  have hfin : ∀ v, (b.atR a (.inRegion ops (i :: rest) :: k)).finish v = b.atR (a.put o.dst v) (.inRegion ops rest :: k) := fun v => finishR ho v
  refine Ends.step rfl fun w₁ h₁ => ?_
  obtain ⟨h1, h2⟩ := hrun w₁ h₁
  exact ⟨_, w₁, _, sR_enter ho hw hk.1 h1, Nat.le_refl _, h2, (hcall.rely h₁) Post _ cs fun v w' S' q => by rw [hfin]; exact hnext v w' S' q Post b k cs rfl hk hc⟩
end
end Go.Proofs.YtdjoodbidcncaaaGreatDoor.AW

/- Regions in whatever order, beside goroutines that only leave. -/
namespace Go.Proofs.YtdjoodbidcncaaaGreatDoor.AW
open Go Go.Conc

/-- a communication that needs nobody: room in the buffer, something in it, or nothing in it and shut -/
def commTo (w : World) (cases : Array CommCase) (shape : CommShape) (u : Value) (w' : World) : Prop :=
  (∃ c v z cap buf s r tm, shape = .send ∧ cases = #[scase c v z] ∧ w.heap[c]? = some (.chan cap buf false s r tm) ∧ buf.size < cap ∧ u = undef ∧ w' = w.setChan c cap (buf.push v) false (s + 1) r tm) ∨
  (∃ ok c z cap buf closed s r tm, shape = .recv ok ∧ cases = #[rcase c z] ∧ w.heap[c]? = some (.chan cap buf closed s r tm) ∧ 0 < buf.size ∧ u = recvd ok (buf.getD 0 undef) true ∧ w' = w.setChan c cap (buf.extract 1 buf.size) closed s (r + 1) tm) ∨
  ∃ ok c z cap s r tm, shape = .recv ok ∧ cases = #[rcase c z] ∧ w.heap[c]? = some (.chan cap #[] true s r tm) ∧ u = recvd ok z false ∧ w' = w
theorem commTo_size {w w' : World} {cases : Array CommCase} {shape : CommShape} {u : Value} (h : commTo w cases shape u w') : w'.heap.size = w.heap.size := by
  rcases h with ⟨c, v, z, cap, buf, s, r, tm, _, _, _, _, _, rfl⟩ | ⟨ok, c, z, cap, buf, closed, s, r, tm, _, _, _, _, _, rfl⟩ | ⟨ok, c, z, cap, s, r, tm, _, _, _, _, rfl⟩ <;> simp [World.setChan]
/-- one operation: it yields a value (or nothing), or enters a function by its contract -/
def opJ (P : Program) (fn : FuncId) (o : Oper) (a : Act) (w : World) (S : Sh) (K : Act → World → Sh → Prop) : Prop :=
  (∀ w₁, AtRel w w₁ → ∃ u w', ((execOp a.eval o).run P w₁ = .ok (.value u) w' ∨ ((execOp a.eval o).run P w₁ = .ok .skip w' ∧ u = undef)) ∧ w₁.heap.size ≤ w'.heap.size ∧ (∀ e ∈ listed P fn a o w₁, EvL S w'.heap.size e) ∧ K (a.put o.dst u) w' S) ∨
  (∃ (f : FuncId) (args : Array Value) (R : Value → World → Sh → Prop), (∀ w₁, AtRel w w₁ → (execOp a.eval o).run P w₁ = .ok (.enter f args) w₁ ∧ ∀ e ∈ listed P fn a o w₁, EvL S w₁.heap.size e) ∧ CallsE P f args w S R ∧ ∀ v w' S', R v w' S' → K (a.put o.dst v) w' S') ∨
  ∀ w₁, AtRel w w₁ → ∃ cases blocking shape u w', (execOp a.eval o).run P w₁ = .ok (.comm cases blocking shape) w₁ ∧ commTo w₁ cases shape u w' ∧ (∀ e ∈ listed P fn a o w₁, EvL S w₁.heap.size e) ∧ K (a.put o.dst u) w' S
section
variable {P : Program} {fn : FuncId} {ops : Array Oper} {Q : Exit → Act → World → Sh → Prop} {md : Region.Mode}
theorem opJ_mono {o : Oper} {a : Act} {w : World} {S : Sh} {K K' : Act → World → Sh → Prop} (h : ∀ a w S, K a w S → K' a w S) (hh : opJ P fn o a w S K) : opJ P fn o a w S K' := by
  rcases hh with hh | ⟨f, args, R, h1, h2, h3⟩ | hh
  · exact .inl fun w₁ h₁ => by obtain ⟨u, w', a1, a2, a3, a4⟩ := hh w₁ h₁; exact ⟨u, w', a1, a2, a3, h _ _ _ a4⟩
  · exact .inr (.inl ⟨f, args, R, h1, h2, fun v w' S' q => h _ _ _ (h3 v w' S' q)⟩)
  · exact .inr (.inr fun w₁ h₁ => by obtain ⟨c, b, s, u, w', a1, a2, a3, a4⟩ := hh w₁ h₁; exact ⟨c, b, s, u, w', a1, a2, a3, h _ _ _ a4⟩)
theorem opsE_comm {i : Nat} {rest : List Nat} {o : Oper} {a : Act} {w : World} {S : Sh} (ho : ops[i]? = some o) (hw : Region.wanted o (yielded ops a.tmps) = true)
    (h : ∀ w₁, AtRel w w₁ → ∃ cases blocking shape u w', (execOp a.eval o).run P w₁ = .ok (.comm cases blocking shape) w₁ ∧ commTo w₁ cases shape u w' ∧ (∀ e ∈ listed P fn a o w₁, EvL S w₁.heap.size e) ∧ opsE P fn ops rest Q (a.put o.dst u) w' S) : opsE P fn ops (i :: rest) Q a w S := by
  intro Post b k cs hb hk hc
  subst hb
  refine Ends.comm rfl fun w₁ h₁ => ?_
  obtain ⟨cases, blocking, shape, u, w', hr, hcm, hes, hn⟩ := h w₁ h₁
  have hstep := sR_comm (main := true) (rest := rest) (b := b) (a := a) (k := k) (cs := cs) ho hw hk.1 hr
  have hsz := commTo_size hcm
  have hfin : ∀ v, (b.atR a (.inRegion ops (i :: rest) :: k)).finish v = b.atR (a.put o.dst v) (.inRegion ops rest :: k) := fun v => finishR ho v
  have hnone : ∀ (gs : Array Goroutine) (c : Nat) (snd : Bool), (∀ j x, 0 < j → gs[j]? = some x → x.status ≠ .blocked) → partners (gs.setIfInBounds 0 ph) c snd = [] := fun gs c snd hnb =>
    partners_nil fun j g hj => by
      rcases getElem?_stand gs 0 j g hj with ⟨_, rfl⟩ | ⟨hne, hx⟩
      · exact offersAt_ph c snd
      · exact offersAt_of_not_blocked (hnb j g (by omega) hx) c snd
  have hserved : ∀ v, Go.Conc.served (G (b.atR a (.inRegion ops (i :: rest) :: k)) cs) v = G (b.atR (a.put o.dst v) (.inRegion ops rest :: k)) cs := fun v => by
    simp only [Go.Conc.served, G, hfin]
  have hE := hn Post b k cs rfl hk hc
  rcases hcm with ⟨c, v, z, cap, buf, s, r, tm, rfl, rfl, hch, hroom, rfl, rfl⟩ | ⟨ok, c, z, cap, buf, closed, s, r, tm, rfl, rfl, hch, hroom, rfl, rfl⟩ | ⟨ok, c, z, cap, s, r, tm, rfl, rfl, hch, rfl, rfl⟩
  all_goals have hlt := (Array.getElem?_eq_some_iff.1 hch).1
  · refine ⟨_, _, _, #[{ g := 0, fn := (G (b.atR a (.inRegion ops (i :: rest) :: k)) cs).frame.fn, pos := (G (b.atR a (.inRegion ops (i :: rest) :: k)) cs).frame.place, act := .send c s }, { g := 0, fn := (G (b.atR a (.inRegion ops (i :: rest) :: k)) cs).frame.fn, pos := (G (b.atR a (.inRegion ops (i :: rest) :: k)) cs).frame.place, act := .sendDone c s }], fun gs sl h0 hnb => ?_, Nat.le_of_eq hsz.symm, fun e he => by rw [hsz]; exact hes e he, fun op hop => ?_, hE⟩
    · have := crowd_send_room (P := P) (sl := sl) h0 (show stepG P (0 == 0) _ _ = _ from hstep) hch hroom (hnone gs c false hnb)
      rw [finishComm_send, hserved] at this
      exact this
    · simp only [List.mem_toArray, List.mem_cons, List.not_mem_nil, or_false] at hop
      rcases hop with rfl | rfl <;> exact ⟨rfl, rfl, by rw [hsz]; exact hlt, by simp, by simp⟩
  · refine ⟨_, _, _, #[{ g := 0, fn := (G (b.atR a (.inRegion ops (i :: rest) :: k)) cs).frame.fn, pos := (G (b.atR a (.inRegion ops (i :: rest) :: k)) cs).frame.place, act := .recv c r cap }, { g := 0, fn := (G (b.atR a (.inRegion ops (i :: rest) :: k)) cs).frame.fn, pos := (G (b.atR a (.inRegion ops (i :: rest) :: k)) cs).frame.place, act := .recvDone c r }], fun gs sl h0 hnb => ?_, Nat.le_of_eq hsz.symm, fun e he => by rw [hsz]; exact hes e he, fun op hop => ?_, hE⟩
    · have := crowd_recv_buf (P := P) (sl := sl) h0 (show stepG P (0 == 0) _ _ = _ from hstep) hch hroom (hnone gs c true hnb)
      rw [finishComm_recv, hserved] at this
      exact this
    · simp only [List.mem_toArray, List.mem_cons, List.not_mem_nil, or_false] at hop
      rcases hop with rfl | rfl <;> exact ⟨rfl, rfl, by rw [hsz]; exact hlt, by simp, by simp⟩
  · refine ⟨_, _, _, #[{ g := 0, fn := (G (b.atR a (.inRegion ops (i :: rest) :: k)) cs).frame.fn, pos := (G (b.atR a (.inRegion ops (i :: rest) :: k)) cs).frame.place, act := .recvClosed c }], fun gs sl h0 hnb => ?_, Nat.le_refl _, hes, fun op hop => ?_, hE⟩
    · have := crowd_recv_closed (P := P) (sl := sl) h0 (show stepG P (0 == 0) _ _ = _ from hstep) hch (hnone gs c true hnb)
      rw [finishComm_recv, hserved] at this
      exact this
    · simp only [List.mem_toArray, List.mem_cons, List.not_mem_nil, or_false] at hop
      subst hop; exact ⟨rfl, rfl, hlt, by simp, by simp⟩
theorem opsE_of_opJ {i : Nat} {rest : List Nat} {o : Oper} {a : Act} {w : World} {S : Sh} (ho : ops[i]? = some o) (hw : Region.wanted o (yielded ops a.tmps) = true) (h : opJ P fn o a w S (opsE P fn ops rest Q)) : opsE P fn ops (i :: rest) Q a w S := by
  rcases h with h | ⟨f, args, R, h1, h2, h3⟩ | h
  · exact opsE_value ho hw h
  · exact opsE_call ho hw h1 h2 h3
  · exact opsE_comm ho hw h
/-- operation number i comes up -/
def OpE (P : Program) (fn : FuncId) (ops : Array Oper) (i : Nat) (K : Act → World → Sh → Prop) (a : Act) (w : World) (S : Sh) : Prop :=
  match ops[i]? with
  | none => False
  | some o => if Region.wanted o (yielded ops a.tmps) then opJ P fn o a w S K else K (a.put o.dst undef) w S
theorem OpE_mono {i : Nat} {a : Act} {w : World} {S : Sh} {K K' : Act → World → Sh → Prop} (h : ∀ a w S, K a w S → K' a w S) (hh : OpE P fn ops i K a w S) : OpE P fn ops i K' a w S := by
  unfold OpE at *
  split
  · simp_all
  · rename_i o ho
    simp only [ho] at hh
    split
    · rename_i hw; simp only [hw, if_true] at hh; exact opJ_mono h hh
    · rename_i hw; simp only [hw] at hh; exact h _ _ _ hh
theorem opsE_cons {i : Nat} {rest : List Nat} {a : Act} {w : World} {S : Sh} (h : OpE P fn ops i (opsE P fn ops rest Q) a w S) : opsE P fn ops (i :: rest) Q a w S := by
  unfold OpE at h
  split at h
  · exact h.elim
  · rename_i o ho
    split at h
    · rename_i hw; exact opsE_of_opJ ho hw h
    · rename_i hw; exact opsE_unwanted ho (by simpa using hw) h
/-- whatever order is picked from here on -/
def AnyE (P : Program) (fn : FuncId) (md : Region.Mode) (ops : Array Oper) (Q : Exit → Act → World → Sh → Prop) : Nat → Array Bool → Act → World → Sh → Prop
  | 0, listed, a, w, S => Region.ready md ops listed = [] ∧ Q .normal a w S
  | fuel + 1, listed, a, w, S => (Region.ready md ops listed = [] → Q .normal a w S) ∧ ∀ i ∈ Region.ready md ops listed, OpE P fn ops i (AnyE P fn md ops Q fuel (listed.setIfInBounds i true)) a w S
theorem anyE_sound : ∀ (fuel t : Nat) (listed : Array Bool) (a : Act) (w : World) (S : Sh), AnyE P fn md ops Q fuel listed a w S → opsE P fn ops (Region.linearise.go md ops fuel t listed []) Q a w S := by
  intro fuel
  induction fuel with
  | zero => intro t listed a w S h; simpa [Region.linearise.go] using opsE_nil h.2
  | succ fuel ih =>
    intro t listed a w S h
    obtain ⟨h₀, h₁⟩ := h
    simp only [Region.linearise.go]
    change opsE P fn ops (match (Region.ready md ops listed)[t % (Region.ready md ops listed).length]? with
      | some i => Region.linearise.go md ops fuel (t / (Region.ready md ops listed).length) (listed.setIfInBounds i true) [i]
      | none => [].reverse) Q a w S
    cases hi : (Region.ready md ops listed)[t % (Region.ready md ops listed).length]? with
    | none =>
      have hnil : Region.ready md ops listed = [] := by
        cases hr : Region.ready md ops listed with
        | nil => rfl
        | cons x xs =>
          rw [hr] at hi
          have hlt : t % (x :: xs).length < (x :: xs).length := Nat.mod_lt _ (by simp)
          simp at hi
          simp at hlt
          omega
      simpa using opsE_nil (h₀ hnil)
    | some i =>
      simp only []
      rw [linearise_go_acc, List.reverse_singleton, List.singleton_append]
      exact opsE_cons (OpE_mono (fun a w S => ih _ _ a w S) (h₁ i (List.mem_of_getElem? hi)))
theorem wpE_region_any {id : Nat} {a : Act} {w : World} {S : Sh} (hm : P.follows .mixedOrders = true) (h : AnyE P fn .any ops Q ops.size (Array.replicate ops.size false) a w S) : wpE P fn (.region id ops true) Q a w S :=
  wpE_region_draw fun t => by
    simp only [Region.schedule, hm, Bool.true_or, if_true]
    exact anyE_sound ops.size t _ a _ S h
end
end Go.Proofs.YtdjoodbidcncaaaGreatDoor.AW

/- Goroutine 0 beside leavers, deaf or hearing: what a lock says. -/
namespace Go.Proofs.YtdjoodbidcncaaaGreatDoor.AW
open Go Go.Conc
open Go.ConcN (sumTo upd sumTo_upd upd_ne upd_same)
open Go.ConcR (deafBehind_cons deafBehind_one)
/-- as the library's Past, goroutine 0 deaf to d -/
structure PastD (Shun : Loc → Prop) (d : Nat) (B : Nat) (t : Trace) : Prop where
  clean : ∀ said, ¬ Race said t
  known : ∀ i a, touchAt t i = some a → a.loc.isMemory = true → Knows t 0 i ∨ (Shun a.loc ∧ a.kind = .atomic)
  over : t.HandedOver
  deaf : Deaf t 0 = d
  seen : ∀ op ∈ t, op.act.low B
theorem PastD.of {S : Loc → Prop} {B : Nat} {t : Trace} (h : Past S B t) : PastD S 0 B t := ⟨h.clean, h.known, h.over, h.hears, h.seen⟩
theorem PastD.to {S : Loc → Prop} {B : Nat} {t : Trace} (h : PastD S 0 B t) : Past S B t := ⟨h.clean, h.known, h.over, h.deaf, h.seen⟩
section
variable {Shun : Loc → Prop} {B d : Nat} {t u : Trace}
theorem PastD.mono {B' : Nat} (h : PastD Shun d B t) (hB : B ≤ B') : PastD Shun d B' t := ⟨h.clean, h.known, h.over, h.deaf, fun op hop => MemAct.low_mono hB (h.seen op hop)⟩
theorem PastD.app0 {d' : Nat} (h : PastD Shun d B t) (hu : ∀ op ∈ u, op.g = 0) (hs : ∀ op ∈ u, ∀ b, op.act.touch? = some b → Shun b.loc → b.kind ≠ .plain) (hd : Deaf (t ++ u) 0 = d') (hl : ∀ op ∈ u, op.act.low B) : PastD Shun d' B (t ++ u) where
  clean := fun said => noRace_append (h.clean said) hu fun i a ha op hop b hb hc => by
    rcases h.known i a ha hc.2.1 with hk | ⟨h1, h2⟩
    · exact hk
    · have h3 := hs op hop b hb (hc.1 ▸ h1)
      rcases hc.2.2.2 with x | x | ⟨_, x, _⟩
      · rw [h2] at x; cases x
      · exact absurd x h3
      · rw [h2] at x; cases x
  known := fun i a ha hm => by
    obtain ⟨x, hx, hxa⟩ := touch_of ha
    rcases getElem?_append_cases hx with ⟨_, hx'⟩ | ⟨_, hxu⟩
    · exact (h.known i a (by rw [touchAt_of hx']; exact hxa) hm).imp (·.app u) id
    · have := knows_own hx
      rw [hu x hxu] at this
      exact .inl this
  over := handedOver_app h.over fun op hop => .inl (hu op hop)
  deaf := hd
  seen := seen_app h.seen hl
theorem PastD.mute (h : PastD Shun d B t) {g : Nat} (hg : g ≠ 0) {fn : FuncId} {pos : String} {es : Array Event} (hm : ∀ e ∈ es, e.mute = true) : PastD Shun d B (t ++ MemOp.ofEvents g fn pos es) := by
  have hu : ∀ op ∈ MemOp.ofEvents g fn pos es, op.g = g := fun op hop => by obtain ⟨e, _, rfl⟩ := Go.Conc.mem_ofEvents hop; rfl
  have hn : ∀ op ∈ MemOp.ofEvents g fn pos es, op.act.touch? = none := fun op hop => by obtain ⟨e, he, rfl⟩ := Go.Conc.mem_ofEvents hop; exact touch_mute (hm e he)
  refine ⟨fun said => noRace_append (h.clean said) hu fun i a _ op hop b hb _ => (by rw [hn op hop] at hb; cases hb), fun i a ha hm => ?_, handedOver_app h.over fun op hop => .inr (hn op hop), (Deaf_other t hg _ hu).trans h.deaf, seen_app h.seen fun op hop => by obtain ⟨e, he, rfl⟩ := Go.Conc.mem_ofEvents hop; exact low_mute (hm e he) B⟩
  obtain ⟨x, hx, hxa⟩ := touch_of ha
  rcases getElem?_append_cases hx with ⟨_, hx'⟩ | ⟨_, hxu⟩
  · exact (h.known i a (by rw [touchAt_of hx']; exact hxa) hm).imp (·.app _) id
  · rw [hn x hxu] at hxa; cases hxa
/-- what a step of goroutine 0's may list -/
def EvD (Shun : Loc → Prop) (B : Nat) (e : Event) : Prop := (∀ x, (MemAct.ofEvent e).touch? = some x → Shun x.loc → x.kind ≠ .plain) ∧ (MemAct.ofEvent e).low B
theorem PastD.own (h : PastD Shun d B t) {fn : FuncId} {pos : String} {es : Array Event} (hes : ∀ e ∈ es, EvD Shun B e) : PastD Shun (deafBehind d es) B (t ++ MemOp.ofEvents 0 fn pos es) :=
  h.app0 (fun op hop => by obtain ⟨e, _, rfl⟩ := Go.Conc.mem_ofEvents hop; rfl) (fun op hop b hb => by obtain ⟨e, he, rfl⟩ := Go.Conc.mem_ofEvents hop; exact (hes e he).1 b hb) (by rw [Deaf_own, h.deaf]) (fun op hop => by obtain ⟨e, he, rfl⟩ := Go.Conc.mem_ofEvents hop; exact (hes e he).2)
end
/-- goroutine 0 at g, in world w, deaf to d: from every frame the run ends well -/
def EndsD (P : Program) (Post : Value → World → Prop) (Shun : Loc → Prop) (d : Nat) (g : Goroutine) (w : World) : Prop :=
  ∀ gs sl t q w₁, AtRel w w₁ → gs[0]? = some g → Leavers P t gs q → PastD Shun d w₁.heap.size t → EndsF P Post (crowd gs w₁ sl) t
section
variable {P : Program} {Post : Value → World → Prop} {Shun : Loc → Prop} {d : Nat}
theorem EndsD.of {g : Goroutine} {w : World} (h : Ends P Post Shun g w) : EndsD P Post Shun 0 g w := fun gs sl t q w₁ h1 h2 h3 h4 => h gs sl t q w₁ h1 h2 h3 h4.to
theorem EndsD.to {g : Goroutine} {w : World} (h : EndsD P Post Shun 0 g w) : Ends P Post Shun g w := fun gs sl t q w₁ h1 h2 h3 h4 => h gs sl t q w₁ h1 h2 h3 (.of h4)
theorem EndsD.rely {g : Goroutine} {w w₁ : World} (h : EndsD P Post Shun d g w) (hr : AtRel w w₁) : EndsD P Post Shun d g w₁ := fun gs sl t q w₂ h₂ => h gs sl t q w₂ (atRel_trans _ _ _ hr h₂)
/-- one move of the machine: goroutine 0's, or a leaver's -/
theorem one_moveD {gs : Array Goroutine} {a : Goroutine} {sl : Option (Nat × Nat)} {t : Trace} {q : Nat → Nat} {w : World} (hrun : a.status = .running) (h0 : gs[0]? = some a) (hL : Leavers P t gs q) (hP : PastD Shun d w.heap.size t)
    (own : ∀ k sl', stepT P (crowd gs w sl) = runT P (crowd gs (w.at k) sl') 0 → EndsF P Post (crowd gs w sl) t)
    (slip : ∀ gs' k sl' ops q', stepT P (crowd gs w sl) = (.next (crowd gs' (w.at k) sl'), ops) → gs'[0]? = some a → Leavers P (t ++ ops) gs' q' → PastD Shun d (w.at k).heap.size (t ++ ops) → sumTo gs'.size q' < sumTo gs.size q → EndsF P Post (crowd gs' (w.at k) sl') (t ++ ops)) :
    EndsF P Post (crowd gs w sl) t := by
  obtain ⟨i, g, k, sl', hi, hg, hst⟩ := crowd_pick (P := P) (w := w) (sl := sl) (awakes hrun h0 hL) ⟨0, a, h0, hrun⟩
  rcases Nat.eq_zero_or_pos i with rfl | hpos
  · exact own k sl' hst
  · have hq := hL.old i g hpos hi
    have hi0 : (i == 0) = false := by simp; omega
    have hlt : i < gs.size := (Array.getElem?_eq_some_iff.1 hi).1
    cases hqi : q i with
    | zero => rw [hqi] at hq; rw [hq.1] at hg; cases hg
    | succ m =>
      rw [hqi] at hq
      rcases hq with ⟨hf, _⟩ | ⟨_, g', es, hm, hstp, hq'⟩
      · rw [hf] at hg; cases hg
      have hrunT := runT_crowd_go (P := P) (sl := sl') (i := i) hi (by rw [hi0]; exact hstp (w.at k))
      have hsz : ((gs.map (woken P g g' (w.at k))).setIfInBounds i g').size = gs.size := by simp
      have hsum : sumTo gs.size (upd q i m) + (m + 1) = sumTo gs.size q + m := by
        have := sumTo_upd q m id hlt
        simpa [hqi] using this
      have hstep := hst.trans hrunT
      refine EndsF.next hstep (slip ((gs.map (woken P g g' (w.at k))).setIfInBounds i g') k sl' _ (upd q i m) hstep ?_ ⟨fun j x hj hx => ?_, fun j hj => ?_⟩ (hP.mute (by omega) hm) (by rw [hsz]; omega))
      · have hne : i ≠ 0 := by omega
        rw [Array.getElem?_setIfInBounds_ne hne, Array.getElem?_map, h0]
        simp [woken_run hrun]
      · by_cases hji : i = j
        · subst hji
          rw [Array.getElem?_setIfInBounds_self_of_lt (by simpa using hlt)] at hx
          obtain rfl := Option.some.inj hx
          rw [upd_same, Deaf_own]
          exact hq'
        · rw [Array.getElem?_setIfInBounds_ne hji, Array.getElem?_map] at hx
          obtain ⟨y, hy, rfl⟩ := Option.map_eq_some_iff.1 hx
          have hqj := hL.old j y hj hy
          rw [woken_quitsD hqj, upd_ne q m (Ne.symm hji), Deaf_other t hji _ (fun op hop => by obtain ⟨e, _, rfl⟩ := Go.Conc.mem_ofEvents hop; rfl)]
          exact hqj
      · rw [Deaf_other t (g' := i) (by simp at hj; omega) _ (fun op hop => by obtain ⟨e, _, rfl⟩ := Go.Conc.mem_ofEvents hop; rfl)]
        exact hL.above j (by simpa using hj)
/-- one step of goroutine 0's own -/
theorem EndsD.step {g : Goroutine} {w : World} (hrun : g.status = .running)
    (h : ∀ w₁, AtRel w w₁ → ∃ g' w' es, stepG P true g w₁ = .go g' w' es ∧ w₁.heap.size ≤ w'.heap.size ∧ (∀ e ∈ es, EvD Shun w'.heap.size e) ∧ EndsD P Post Shun (deafBehind d es) g' w') : EndsD P Post Shun d g w := by
  intro gs sl t q w₁ hr h0 hL hP
  generalize hM : sumTo gs.size q = M
  induction M using Nat.strongRecOn generalizing gs sl t q w₁ with
  | _ M ih =>
    refine one_moveD hrun h0 hL hP (fun k sl' hst => ?_) fun gs' k sl' ops q' hst h0' hL' hP' hlt => ih _ (by omega) gs' sl' _ q' _ (atRel_trans _ _ _ hr ⟨k, rfl⟩) h0' hL' hP' rfl
    obtain ⟨g', w', es, hgo, hsz, hes, hE⟩ := h (w₁.at k) (atRel_trans _ _ _ hr ⟨k, rfl⟩)
    have hrunT := runT_crowd_go (P := P) (sl := sl') (i := 0) h0 (show stepG P (0 == 0) g (w₁.at k) = _ from hgo)
    have hlt : 0 < gs.size := (Array.getElem?_eq_some_iff.1 h0).1
    refine EndsF.next (hst.trans hrunT) (hE _ _ _ q _ (atRel_refl _) (by simp [hlt]) ⟨fun j x hj hx => ?_, fun j hj => ?_⟩ ((hP.mono hsz).own hes))
    · have hne : 0 ≠ j := by omega
      rw [Array.getElem?_setIfInBounds_ne hne, Array.getElem?_map] at hx
      obtain ⟨y, hy, rfl⟩ := Option.map_eq_some_iff.1 hx
      have hq := hL.old j y hj hy
      rw [woken_quitsD hq, Deaf_other t (by omega) _ (fun op hop => by obtain ⟨e, _, rfl⟩ := Go.Conc.mem_ofEvents hop; rfl)]
      exact hq
    · rw [Deaf_other t (g' := 0) (by simp at hj; omega) _ (fun op hop => by obtain ⟨e, _, rfl⟩ := Go.Conc.mem_ofEvents hop; rfl)]
      exact hL.above j (by simpa using hj)
theorem EndsD.quiet {g g' : Goroutine} {w : World} (hs : g.status = .running) (h : ∀ w₁, AtRel w w₁ → stepG P true g w₁ = .go g' w₁ #[]) (he : EndsD P Post Shun d g' w) : EndsD P Post Shun d g w :=
  EndsD.step hs fun w₁ h₁ => ⟨g', w₁, #[], h w₁ h₁, Nat.le_refl _, by simp, he.rely h₁⟩
end
end Go.Proofs.YtdjoodbidcncaaaGreatDoor.AW
