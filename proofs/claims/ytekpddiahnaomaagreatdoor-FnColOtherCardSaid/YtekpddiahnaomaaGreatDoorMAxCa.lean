/- Goroutine 0's walk beside goroutines that only leave: a judgement without counts. -/
import Derived.Conc.Beside
import Derived.Conc.Company
import Derived.Conc.CompanyDraw
import Derived.Conc.CompanyCalls
set_option linter.unusedVariables false
set_option linter.unusedSimpArgs false
namespace Go.Proofs.YtekpddiahnaomaaGreatDoor.AW
open Go Go.Conc
open Go.ConcN (sumTo upd sumTo_upd upd_ne upd_same)

/-- the run from here ends well -/
def EndsF (P : Program) (Post : Value → World → Prop) (m : Machine) (t : Trace) : Prop :=
  ∃ N last o w' t', runNT P (N + 1) m t = (.ended o w', t') ∧ runN P N m = .next last ∧ step P last = .ended o w' ∧ Good P Post last o w' t'
theorem EndsF.next {P : Program} {Post : Value → World → Prop} {m m' : Machine} {t : Trace} {ops : Array MemOp} (hs : stepT P m = (.next m', ops)) (h : EndsF P Post m' (t ++ ops)) : EndsF P Post m t := by
  obtain ⟨n, last, o, w, t', h1, h2, h3, h4⟩ := h
  exact ⟨n + 1, last, o, w, t', by rw [runNT_succ_next hs]; exact h1, by rw [runN_succ_next hs]; exact h2, h3, h4⟩
theorem EndsF.now {P : Program} {Post : Value → World → Prop} {m : Machine} {t : Trace} {o : Outcome} {w : World} {ops : Array MemOp} (hs : stepT P m = (.ended o w, ops)) (h : Good P Post m o w (t ++ ops)) : EndsF P Post m t :=
  ⟨0, m, o, w, t ++ ops, by simp [runNT, hs], rfl, by simp [step, hs], h⟩

/-- goroutine 0 at g, in world w: from every frame the run ends well -/
def Ends (P : Program) (Post : Value → World → Prop) (Shun : Loc → Prop) (g : Goroutine) (w : World) : Prop :=
  ∀ gs sl t q w₁, AtRel w w₁ → gs[0]? = some g → Leavers P t gs q → Past Shun w₁.heap.size t → EndsF P Post (crowd gs w₁ sl) t
section
variable {P : Program} {Post : Value → World → Prop} {Shun : Loc → Prop}
theorem Ends.rely {g : Goroutine} {w w₁ : World} (h : Ends P Post Shun g w) (hr : AtRel w w₁) : Ends P Post Shun g w₁ := fun gs sl t q w₂ h₂ => h gs sl t q w₂ (atRel_trans _ _ _ hr h₂)

theorem awakes {gs : Array Goroutine} {a : Goroutine} {t : Trace} {q : Nat → Nat} (hrun : a.status = .running) (h0 : gs[0]? = some a) (hL : Leavers P t gs q) : ∀ g ∈ gs, awake g := by
  intro g hg
  obtain ⟨i, hi, rfl⟩ := Array.mem_iff_getElem.1 hg
  rcases Nat.eq_zero_or_pos i with rfl | hpos
  · have : gs[0] = a := by simpa [Array.getElem?_eq_getElem hi] using h0
    rw [this]; exact awake_of (.inl hrun)
  · exact awake_of ((hL.old i _ hpos (Array.getElem?_eq_getElem hi)).status.elim .inl fun x => .inr (.inr x))

/-- one move of the machine: goroutine 0's, or a leaver's -/
theorem one_move {gs : Array Goroutine} {a : Goroutine} {sl : Option (Nat × Nat)} {t : Trace} {q : Nat → Nat} {w : World} (hrun : a.status = .running) (h0 : gs[0]? = some a) (hL : Leavers P t gs q) (hP : Past Shun w.heap.size t)
    (own : ∀ d sl', stepT P (crowd gs w sl) = runT P (crowd gs (w.at d) sl') 0 → EndsF P Post (crowd gs w sl) t)
    (slip : ∀ gs' d sl' ops q', stepT P (crowd gs w sl) = (.next (crowd gs' (w.at d) sl'), ops) → gs'[0]? = some a → Leavers P (t ++ ops) gs' q' → Past Shun (w.at d).heap.size (t ++ ops) → sumTo gs'.size q' < sumTo gs.size q → EndsF P Post (crowd gs' (w.at d) sl') (t ++ ops)) :
    EndsF P Post (crowd gs w sl) t := by
  obtain ⟨i, g, d, sl', hi, hg, hst⟩ := crowd_pick (P := P) (w := w) (sl := sl) (awakes hrun h0 hL) ⟨0, a, h0, hrun⟩
  rcases Nat.eq_zero_or_pos i with rfl | hpos
  · exact own d sl' hst
  · have hq := hL.old i g hpos hi
    have hi0 : (i == 0) = false := by simp; omega
    have hlt : i < gs.size := (Array.getElem?_eq_some_iff.1 hi).1
    cases hqi : q i with
    | zero => rw [hqi] at hq; rw [hq.1] at hg; cases hg
    | succ k =>
      rw [hqi] at hq
      rcases hq with ⟨hf, _⟩ | ⟨_, g', es, hm, hstp, hq'⟩
      · rw [hf] at hg; cases hg
      have hrunT := runT_crowd_go (P := P) (sl := sl') (i := i) hi (by rw [hi0]; exact hstp (w.at d))
      have hsz : ((gs.map (woken P g g' (w.at d))).setIfInBounds i g').size = gs.size := by simp
      have hsum : sumTo gs.size (upd q i k) + (k + 1) = sumTo gs.size q + k := by
        have := sumTo_upd q k id hlt
        simpa [hqi] using this
      have hstep := hst.trans hrunT
      refine EndsF.next hstep (slip ((gs.map (woken P g g' (w.at d))).setIfInBounds i g') d sl' _ (upd q i k) hstep ?_ ⟨fun j x hj hx => ?_, fun j hj => ?_⟩ (hP.mute (by omega) hm) (by rw [hsz]; omega))
      · have hne : i ≠ 0 := by omega
        rw [Array.getElem?_setIfInBounds_ne hne, Array.getElem?_map, h0]
        simp [woken_run hrun]
      · by_cases hji : i = j
        · subst hji
          rw [Array.getElem?_setIfInBounds_self_of_lt (by simpa using hlt)] at hx
          obtain rfl := Option.some.inj hx
          rw [upd_same, Deaf_own]
          exact hq'
        · rw [Array.getElem?_setIfInBounds_ne hji, Array.getElem?_map] at hx
          obtain ⟨y, hy, rfl⟩ := Option.map_eq_some_iff.1 hx
          have hqj := hL.old j y hj hy
          rw [woken_quitsD hqj, upd_ne q k (Ne.symm hji), Deaf_other t hji _ (fun op hop => by obtain ⟨e, _, rfl⟩ := Go.Conc.mem_ofEvents hop; rfl)]
          exact hqj
      · rw [Deaf_other t (g' := i) (by simp at hj; omega) _ (fun op hop => by obtain ⟨e, _, rfl⟩ := Go.Conc.mem_ofEvents hop; rfl)]
        exact hL.above j (by simpa using hj)

/-- ████ one step of goroutine 0's own ████ -/
theorem Ends.step {g : Goroutine} {w : World} (hrun : g.status = .running)
    (h : ∀ w₁, AtRel w w₁ → ∃ g' w' es, stepG P true g w₁ = .go g' w' es ∧ w₁.heap.size ≤ w'.heap.size ∧ (∀ e ∈ es, EvL Shun w'.heap.size e) ∧ Ends P Post Shun g' w') : Ends P Post Shun g w := by
  intro gs sl t q w₁ hr h0 hL hP
  generalize hM : sumTo gs.size q = M
  induction M using Nat.strongRecOn generalizing gs sl t q w₁ with
  | _ M ih =>
    refine one_move hrun h0 hL hP (fun d sl' hst => ?_) fun gs' d sl' ops q' hst h0' hL' hP' hlt => ih _ (by omega) gs' sl' _ q' _ (atRel_trans _ _ _ hr ⟨d, rfl⟩) h0' hL' hP' rfl
    obtain ⟨g', w', es, hgo, hsz, hes, hE⟩ := h (w₁.at d) (atRel_trans _ _ _ hr ⟨d, rfl⟩)
    have hrunT := runT_crowd_go (P := P) (sl := sl') (i := 0) h0 (show stepG P (0 == 0) g (w₁.at d) = _ from hgo)
    have hlt : 0 < gs.size := (Array.getElem?_eq_some_iff.1 h0).1
    refine EndsF.next (hst.trans hrunT) (hE _ _ _ q _ (atRel_refl _) (by simp [hlt]) ⟨fun j x hj hx => ?_, fun j hj => ?_⟩ ((hP.mono hsz).own hes))
    · have hne : 0 ≠ j := by omega
      rw [Array.getElem?_setIfInBounds_ne hne, Array.getElem?_map] at hx
      obtain ⟨y, hy, rfl⟩ := Option.map_eq_some_iff.1 hx
      have hq := hL.old j y hj hy
      rw [woken_quitsD hq, Deaf_other t (by omega) _ (fun op hop => by obtain ⟨e, _, rfl⟩ := Go.Conc.mem_ofEvents hop; rfl)]
      exact hq
    · rw [Deaf_other t (g' := 0) (by simp at hj; omega) _ (fun op hop => by obtain ⟨e, _, rfl⟩ := Go.Conc.mem_ofEvents hop; rfl)]
      exact hL.above j (by simpa using hj)

/-- the return -/
theorem Ends.done {g : Goroutine} {w : World} (hrun : g.status = .running)
    (h : ∀ w₁, AtRel w w₁ → ∃ v es, stepG P true g w₁ = .ended (.done v) w₁ es ∧ (∀ e ∈ es, EvL Shun w₁.heap.size e) ∧ Post v w₁) : Ends P Post Shun g w := by
  intro gs sl t q w₁ hr h0 hL hP
  generalize hM : sumTo gs.size q = M
  induction M using Nat.strongRecOn generalizing gs sl t q w₁ with
  | _ M ih =>
    refine one_move hrun h0 hL hP (fun d sl' hst => ?_) fun gs' d sl' ops q' hst h0' hL' hP' hlt => ih _ (by omega) gs' sl' _ q' _ (atRel_trans _ _ _ hr ⟨d, rfl⟩) h0' hL' hP' rfl
    obtain ⟨v, es, hend, hes, hpost⟩ := h (w₁.at d) (atRel_trans _ _ _ hr ⟨d, rfl⟩)
    have hrunT := runT_many_ended (P := P) (sl := sl') (i := 0) h0 (show stepG P (0 == 0) g (w₁.at d) = _ from hend)
    have hP' := hP.own (fn := g.frame.fn) (pos := g.frame.place) hes
    refine EndsF.now (hst.trans hrunT) ⟨v, rfl, hpost, hP'.clean, hP'.over, ⟨fun x hx => ?_, rfl⟩, fun j x hx hj => ?_⟩
    · obtain ⟨j, hj⟩ := List.mem_iff_getElem?.1 hx
      rw [List.getElem?_drop] at hj
      exact ⟨_, (hL.old (1 + j) x (by omega) (by simpa [crowd] using hj)).leaves⟩
    · have hq := hL.old j x (by omega) hx
      refine ⟨q j, ?_⟩
      have e : (t ++ MemOp.ofEvents 0 g.frame.fn g.frame.place es).deaf j (t ++ MemOp.ofEvents 0 g.frame.fn g.frame.place es).size = Deaf t j :=
        Deaf_other t (g := j) (g' := 0) (by omega) _ (fun op hop => by obtain ⟨e, _, rfl⟩ := Go.Conc.mem_ofEvents hop; rfl)
      rw [e]
      exact hq.hears _
end
end Go.Proofs.YtekpddiahnaomaaGreatDoor.AW

/- Code beside goroutines that only leave: the rules, without counts. -/
namespace Go.Proofs.YtekpddiahnaomaaGreatDoor.AW
open Go Go.Conc

abbrev Sh : Type := Loc → Prop
/-- where it goes on behind a piece of code -/
def AfterE (P : Program) (Post : Value → World → Prop) (S : Sh) (b : Frame) (k : List Item) (cs : List Frame) : Exit → Act → World → Prop
  | .normal, a, w => Ends P Post S (G (b.at a k) cs) w
  | .exit id, a, w => ∃ k', exitTo id k = some k' ∧ Ends P Post S (G (b.at a k') cs) w
  | .ret, a, w => ∀ todo, Ends P Post S (G { b.at a todo with mode := .returning } cs) w
  | _, _, _ => False
section
variable {P : Program} {Post : Value → World → Prop}
theorem AfterE.push {S : Sh} {b : Frame} {x : Item} {k : List Item} {cs : List Frame} {e : Exit} {a : Act} {w : World} (hx : x.plain = true) (he : e ≠ .normal) (h : AfterE P Post S b k cs e a w) : AfterE P Post S b (x :: k) cs e a w := by
  cases e with
  | normal => exact absurd rfl he
  | exit id => obtain ⟨k', hk, hg⟩ := h; exact ⟨k', by cases x <;> simp_all [exitTo, Item.plain], hg⟩
  | ret => exact h
  | goto l => exact h
  | panic ch => exact h
  | outgrown => exact h
end
/-- ████ the judgement ████ -/
def wpE (P : Program) (fn : FuncId) (c : Code) (Q : Exit → Act → World → Sh → Prop) (a : Act) (w : World) (S : Sh) : Prop :=
  ∀ (Post : Value → World → Prop) (b : Frame) (k : List Item) (cs : List Frame), b.fn = fn → b.kind ≠ .early →
    (∀ e a' w' S', Q e a' w' S' → AfterE P Post S' b k cs e a' w') → Ends P Post S (G (b.at a (.code c :: k)) cs) w
/-- the operations of a region that are still to come -/
def opsE (P : Program) (fn : FuncId) (ops : Array Oper) (todo : List Nat) (Q : Exit → Act → World → Sh → Prop) (a : Act) (w : World) (S : Sh) : Prop :=
  ∀ (Post : Value → World → Prop) (b : Frame) (k : List Item) (cs : List Frame), b.fn = fn → b.kind ≠ .early →
    (∀ e a' w' S', Q e a' w' S' → AfterE P Post S' b k cs e a' w') → Ends P Post S (G (b.at a (.inRegion ops todo :: k)) cs) w
section rules
variable {P : Program} {fn : FuncId} {Q : Exit → Act → World → Sh → Prop} {a : Act} {w : World} {S : Sh}
theorem quiet {Post : Value → World → Prop} {g g' : Goroutine} (hs : g.status = .running) (h : ∀ w₁, stepG P true g w₁ = .go g' w₁ #[]) (he : Ends P Post S g' w) : Ends P Post S g w :=
  Ends.step hs fun w₁ h₁ => ⟨g', w₁, #[], h w₁, Nat.le_refl _, by simp, he.rely h₁⟩
theorem wpE_mono {c : Code} {Q' : Exit → Act → World → Sh → Prop} (h : wpE P fn c Q a w S) (hq : ∀ e a w S, Q e a w S → Q' e a w S) : wpE P fn c Q' a w S :=
  fun Post b k cs hb hk hc => h Post b k cs hb hk fun e a' w' S' q => hc e a' w' S' (hq e a' w' S' q)
theorem wpE_rely {c : Code} {w₁ : World} (h : wpE P fn c Q a w S) (hr : AtRel w w₁) : wpE P fn c Q a w₁ S := fun Post b k cs hb hk hc => (h Post b k cs hb hk hc).rely hr
theorem opsE_rely {ops : Array Oper} {todo : List Nat} {w₁ : World} (h : opsE P fn ops todo Q a w S) (hr : AtRel w w₁) : opsE P fn ops todo Q a w₁ S := fun Post b k cs hb hk hc => (h Post b k cs hb hk hc).rely hr
theorem wpE_skip (h : Q .normal a w S) : wpE P fn .skip Q a w S := fun Post b k cs _ _ hc => quiet rfl (fun _ => stepG_skip) (hc _ _ _ _ h)
theorem wpE_label {l : Nat} (h : Q .normal a w S) : wpE P fn (.label l) Q a w S := fun Post b k cs _ _ hc => quiet rfl (fun _ => stepG_label) (hc _ _ _ _ h)
theorem wpE_ret (h : Q .ret a w S) : wpE P fn .ret Q a w S := fun Post b k cs _ _ hc => quiet rfl (fun _ => stepG_ret') (hc _ _ _ _ h _)
theorem wpE_exit {id : Nat} (h : Q (.exit id) a w S) : wpE P fn (.exit id) Q a w S := fun Post b k cs _ _ hc => by
  obtain ⟨k', hk', hg⟩ := hc _ _ _ _ h
  exact quiet rfl (fun _ => stepG_exit hk') hg
def ThenE (K : Act → World → Sh → Prop) (Q : Exit → Act → World → Sh → Prop) : Exit → Act → World → Sh → Prop
  | .normal => K
  | e => Q e
theorem wpE_seq {x y : Code} (h : wpE P fn x (ThenE (fun a' w' S' => wpE P fn y Q a' w' S') Q) a w S) : wpE P fn (.seq x y) Q a w S := by
  intro Post b k cs hb hk hc
  refine quiet rfl (fun _ => stepG_seq) (h Post b (.code y :: k) cs hb hk fun e a' w' S' q => ?_)
  cases e with
  | normal => exact q Post b k cs hb hk hc
  | exit id => exact (hc _ _ _ _ q).push rfl (by simp)
  | ret => exact (hc _ _ _ _ q).push (x := .code y) rfl (by simp)
  | goto l => exact hc _ _ _ _ q
  | panic ch => exact hc _ _ _ _ q
  | outgrown => exact hc _ _ _ _ q
theorem wpE_cond {c : Operand} {x y : Code} {t : Bool} (hc : a.eval c = .bool t) (h : wpE P fn (if t then x else y) Q a w S) : wpE P fn (.cond c x y) Q a w S :=
  fun Post b k cs hb hk hq => quiet rfl (fun _ => stepG_cond hc) (h Post b k cs hb hk hq)
def BlockE (id : Nat) (Q : Exit → Act → World → Sh → Prop) : Exit → Act → World → Sh → Prop
  | .exit id' => if id' = id then Q .normal else Q (.exit id')
  | e => Q e
theorem wpE_block {id : Nat} {c : Code} (h : wpE P fn c (BlockE id Q) a w S) : wpE P fn (.block id c) Q a w S := by
  intro Post b k cs hb hk hc
  refine quiet rfl (fun _ => stepG_block) (h Post b (.inBlock id :: k) cs hb hk fun e a' w' S' q => ?_)
  cases e with
  | normal => exact quiet rfl (fun _ => stepG_inBlock) (hc _ _ _ _ q)
  | exit id' =>
    by_cases hid : id' = id
    · simp only [BlockE, hid, if_true] at q
      exact ⟨k, by simp [exitTo, hid], hc _ _ _ _ q⟩
    · simp only [BlockE, hid, if_false] at q
      obtain ⟨k', hk', hg⟩ := hc _ _ _ _ q
      have : (id == id') = false := by simp; exact fun h => hid h.symm
      exact ⟨k', by simp [exitTo, this, hk'], hg⟩
  | ret => exact fun todo => hc _ _ _ _ q todo
  | goto l => exact hc _ _ _ _ q
  | panic ch => exact hc _ _ _ _ q
  | outgrown => exact hc _ _ _ _ q
theorem wpE_loop {c : Code} {X : Type} (J : X → Act → World → Sh → Prop) (μ : X → Nat) (x₀ : X) (h₀ : J x₀ a w S)
    (round : ∀ x a w S, J x a w S → wpE P fn c (ThenE (fun a' w' S' => ∃ x', J x' a' w' S' ∧ μ x' < μ x) Q) a w S) : wpE P fn (.loop c) Q a w S := by
  intro Post b k cs hb hk hc
  have key : ∀ n x a w S, μ x = n → J x a w S → Ends P Post S (G (b.at a (.code c :: .inLoop c :: k)) cs) w := by
    intro n
    induction n using Nat.strongRecOn with
    | _ n ih =>
      intro x a w S hn hJ
      refine round x a w S hJ Post b (.inLoop c :: k) cs hb hk fun e a' w' S' q => ?_
      cases e with
      | normal =>
        obtain ⟨x', hJ', hlt⟩ := q
        exact quiet rfl (fun _ => stepG_inLoop) (ih _ (by omega) x' a' w' S' rfl hJ')
      | exit id => exact (hc _ _ _ _ q).push rfl (by simp)
      | ret => exact (hc _ _ _ _ q).push (x := .inLoop c) rfl (by simp)
      | goto l => exact hc _ _ _ _ q
      | panic ch => exact hc _ _ _ _ q
      | outgrown => exact hc _ _ _ _ q
  exact quiet rfl (fun _ => stepG_loop) (key _ x₀ a w S rfl h₀)
theorem wpE_region {id : Nat} {ops : Array Oper} (h : opsE P fn ops (List.range ops.size) Q a w S) : wpE P fn (.region id ops false) Q a w S :=
  fun Post b k cs hb hk hc => quiet rfl (fun _ => stepG_region) (h Post b k cs hb hk hc)
theorem wpE_region_draw {id : Nat} {ops : Array Oper} (h : ∀ t, opsE P fn ops (Region.schedule (P.follows .mixedOrders) ops t) Q a w S) : wpE P fn (.region id ops true) Q a w S :=
  fun Post b k cs hb hk hc => Ends.step rfl fun w₁ h₁ => ⟨_, _, #[], stepG_region_draw, Nat.le_refl _, by simp, (h _ Post b k cs hb hk hc).rely (atRel_trans _ _ _ h₁ ⟨w₁.drawn + 1, rfl⟩)⟩
theorem opsE_nil {ops : Array Oper} (h : Q .normal a w S) : opsE P fn ops [] Q a w S := fun Post b k cs _ _ hc => quiet rfl (fun _ => stepG_region_end) (hc _ _ _ _ h)
theorem opsE_unwanted {ops : Array Oper} {i : Nat} {rest : List Nat} {o : Oper} (ho : ops[i]? = some o) (hw : Region.wanted o (yielded ops a.tmps) = false) (h : opsE P fn ops rest Q (a.put o.dst undef) w S) : opsE P fn ops (i :: rest) Q a w S :=
  fun Post b k cs hb hk hc => quiet rfl (fun _ => stepG_unwanted ho hw) (h Post b k cs hb hk hc)
/-- one operation that yields a value, or nothing -/
theorem opsE_value {ops : Array Oper} {i : Nat} {rest : List Nat} {o : Oper} (ho : ops[i]? = some o) (hw : Region.wanted o (yielded ops a.tmps) = true)
    (h : ∀ w₁, AtRel w w₁ → ∃ u w', ((execOp a.eval o).run P w₁ = .ok (.value u) w' ∨ ((execOp a.eval o).run P w₁ = .ok .skip w' ∧ u = undef)) ∧ w₁.heap.size ≤ w'.heap.size ∧ (∀ e ∈ listed P fn a o w₁, EvL S w'.heap.size e) ∧ opsE P fn ops rest Q (a.put o.dst u) w' S) : opsE P fn ops (i :: rest) Q a w S := by
  intro Post b k cs hb hk hc
  subst hb
  refine Ends.step rfl fun w₁ h₁ => ?_
  obtain ⟨u, w', hr, hsz, hes, hn⟩ := h w₁ h₁
  rcases hr with hr | ⟨hr, rfl⟩
  · exact ⟨_, w', _, stepG_value ho hw hk hr, hsz, hes, hn Post b k cs rfl hk hc⟩
  · exact ⟨_, w', _, stepG_none ho hw hk hr, hsz, hes, hn Post b k cs rfl hk hc⟩
end rules
end Go.Proofs.YtekpddiahnaomaaGreatDoor.AW

/- Calls beside goroutines that only leave. -/
namespace Go.Proofs.YtekpddiahnaomaaGreatDoor.AW
open Go Go.Conc

section
variable {P : Program} {main : Bool} {b : Frame} {a : Act} {cs : List Frame} {w : World}
/-- a function is left; what its results read is listed -/
theorem stepG_leaveE {fn : Func} {todo : List Item} {c : Frame} {v : Value} (hn : b.kind = .normal) (hd : a.defers = []) (hf : P.funcs[b.fn]? = some fn) (hr : (results fn a.tmps).run P w = .ok v w) :
    stepG P main (G { b.at a todo with mode := .returning } (c :: cs)) w = .go (G (c.finish v) cs) w (seen P b.fn ((results fn a.tmps).events P w #[])) := by
  simp [G, stepG, unwind, doReturn, Frame.at, hn, hd, hf, hr, GStep.after]
/-- the outermost function is left: the run ends -/
theorem stepG_lastE {fn : Func} {todo : List Item} {v : Value} (hn : b.kind = .normal) (hd : a.defers = []) (hi : P.inits.idxOf? b.fn = none) (hf : P.funcs[b.fn]? = some fn) (hr : (results fn a.tmps).run P w = .ok v w) :
    stepG P true (G { b.at a todo with mode := .returning } []) w = .ended (.done v) w (seen P b.fn ((results fn a.tmps).events P w #[])) := by
  simp [G, stepG, unwind, doReturn, Frame.at, hn, hd, hf, hr, hi, GStep.after]
end

/-- ████ a contract beside leavers: from the entry, whoever calls, to the return ████ -/
def CallsE (P : Program) (f : FuncId) (args : Array Value) (w : World) (S : Sh) (R : Value → World → Sh → Prop) : Prop :=
  ∀ (Post : Value → World → Prop) (c : Frame) (cs : List Frame), (∀ v w' S', R v w' S' → Ends P Post S' (G (c.finish v) cs) w') → Ends P Post S (G (Frame.enter P f args .normal) (c :: cs)) w
theorem CallsE.mono {P : Program} {f : FuncId} {args : Array Value} {w : World} {S : Sh} {R R' : Value → World → Sh → Prop} (h : CallsE P f args w S R) (hr : ∀ v w S, R v w S → R' v w S) : CallsE P f args w S R' :=
  fun Post c cs hc => h Post c cs fun v w' S' q => hc v w' S' (hr v w' S' q)
theorem CallsE.rely {P : Program} {f : FuncId} {args : Array Value} {w w₁ : World} {S : Sh} {R : Value → World → Sh → Prop} (h : CallsE P f args w S R) (hr : AtRel w w₁) : CallsE P f args w₁ S R := fun Post c cs hc => (h Post c cs hc).rely hr

/-- what the body must achieve -/
def BodyE (P : Program) (f : FuncId) (fn : Func) (R : Value → World → Sh → Prop) : Exit → Act → World → Sh → Prop
  | .normal, a, w, S | .ret, a, w, S => a.defers = [] ∧ ∀ w₁, AtRel w w₁ → ∃ v, (results fn a.tmps).run P w₁ = .ok v w₁ ∧ (∀ e ∈ seen P f ((results fn a.tmps).events P w₁ #[]), EvL S w₁.heap.size e) ∧ R v w₁ S
  | _, _, _, _ => False
section
variable {P : Program} {f : FuncId} {fn : Func} {c : Code} {args : Array Value} {w : World} {S : Sh}
theorem enterE {Post : Value → World → Prop} {R : Value → World → Sh → Prop} (hf : P.funcs[f]? = some fn) (hb : fn.body = some c) {cs : List Frame}
    (h : wpE P f c (BodyE P f fn R) { tmps := args ++ Array.replicate (fn.ntmps - args.size) undef, defers := [] } w S)
    (leave : ∀ a' w' S' todo, BodyE P f fn R .ret a' w' S' → Ends P Post S' (G { (base f).at a' todo with mode := .returning } cs) w') : Ends P Post S (G (Frame.enter P f args .normal) cs) w := by
  rw [enter_at _ hf hb]
  refine h Post (base f) [] cs rfl (by simp [base]) fun e a' w' S' q => ?_
  cases e with
  | normal => exact quiet rfl (fun _ => stepG_end) (leave a' w' S' [] q)
  | ret => exact fun todo => leave a' w' S' todo q
  | exit id => exact q.elim
  | goto l => exact q.elim
  | panic ch => exact q.elim
  | outgrown => exact q.elim
theorem callsE_of_wpE {R : Value → World → Sh → Prop} (hf : P.funcs[f]? = some fn) (hb : fn.body = some c)
    (h : wpE P f c (BodyE P f fn R) { tmps := args ++ Array.replicate (fn.ntmps - args.size) undef, defers := [] } w S) : CallsE P f args w S R := fun Post c cs hc => by
  refine enterE hf hb h fun a' w' S' todo q => Ends.step rfl fun w₁ h₁ => ?_
  obtain ⟨hd, hq⟩ := q
  obtain ⟨v, hr, hes, hR⟩ := hq w₁ h₁
  exact ⟨_, w₁, _, stepG_leaveE (b := base f) rfl hd hf hr, Nat.le_refl _, hes, hc v w₁ S' hR⟩
/-- the outermost call -/
theorem ends_of_wpE {Post : Value → World → Prop} (hi : P.inits.idxOf? f = none) (hf : P.funcs[f]? = some fn) (hb : fn.body = some c)
    (h : wpE P f c (BodyE P f fn fun v w _ => Post v w) { tmps := args ++ Array.replicate (fn.ntmps - args.size) undef, defers := [] } w S) : Ends P Post S (G (Frame.enter P f args .normal) []) w := by
  refine enterE hf hb h fun a' w' S' todo q => Ends.done rfl fun w₁ h₁ => ?_
  obtain ⟨hd, hq⟩ := q
  obtain ⟨v, hr, hes, hR⟩ := hq w₁ h₁
  exact ⟨v, _, stepG_lastE (b := base f) rfl hd hi hf hr, hes, hR⟩
/-- through a call -/
theorem opsE_call {g : FuncId} {Q : Exit → Act → World → Sh → Prop} {a : Act} {ops : Array Oper} {i : Nat} {rest : List Nat} {o : Oper} {R : Value → World → Sh → Prop} (ho : ops[i]? = some o) (hw : Region.wanted o (yielded ops a.tmps) = true)
    (hrun : ∀ w₁, AtRel w w₁ → (execOp a.eval o).run P w₁ = .ok (.enter f args) w₁ ∧ ∀ e ∈ listed P g a o w₁, EvL S w₁.heap.size e) (hcall : CallsE P f args w S R)
    (hnext : ∀ v w' S', R v w' S' → opsE P g ops rest Q (a.put o.dst v) w' S') : opsE P g ops (i :: rest) Q a w S := by
  intro Post b k cs hb hk hc
  subst hb
  have hfin : ∀ v, (b.at a (.inRegion ops (i :: rest) :: k)).finish v = b.at (a.put o.dst v) (.inRegion ops rest :: k) := fun v => by rw [Frame.finish_at, ho]; rfl
  refine Ends.step rfl fun w₁ h₁ => ?_
  obtain ⟨h1, h2⟩ := hrun w₁ h₁
  exact ⟨_, w₁, _, stepG_enter ho hw hk h1, Nat.le_refl _, h2, (hcall.rely h₁) Post _ cs fun v w' S' q => by rw [hfin]; exact hnext v w' S' q Post b k cs rfl hk hc⟩
end
end Go.Proofs.YtekpddiahnaomaaGreatDoor.AW

/- Regions in whatever order, beside goroutines that only leave. -/
namespace Go.Proofs.YtekpddiahnaomaaGreatDoor.AW
open Go Go.Conc

/-- one operation: it yields a value (or nothing), or enters a function by its contract -/
def opJ (P : Program) (fn : FuncId) (o : Oper) (a : Act) (w : World) (S : Sh) (K : Act → World → Sh → Prop) : Prop :=
  (∀ w₁, AtRel w w₁ → ∃ u w', ((execOp a.eval o).run P w₁ = .ok (.value u) w' ∨ ((execOp a.eval o).run P w₁ = .ok .skip w' ∧ u = undef)) ∧ w₁.heap.size ≤ w'.heap.size ∧ (∀ e ∈ listed P fn a o w₁, EvL S w'.heap.size e) ∧ K (a.put o.dst u) w' S) ∨
  ∃ (f : FuncId) (args : Array Value) (R : Value → World → Sh → Prop), (∀ w₁, AtRel w w₁ → (execOp a.eval o).run P w₁ = .ok (.enter f args) w₁ ∧ ∀ e ∈ listed P fn a o w₁, EvL S w₁.heap.size e) ∧ CallsE P f args w S R ∧ ∀ v w' S', R v w' S' → K (a.put o.dst v) w' S'
section
variable {P : Program} {fn : FuncId} {ops : Array Oper} {Q : Exit → Act → World → Sh → Prop} {md : Region.Mode}
theorem opJ_mono {o : Oper} {a : Act} {w : World} {S : Sh} {K K' : Act → World → Sh → Prop} (h : ∀ a w S, K a w S → K' a w S) (hh : opJ P fn o a w S K) : opJ P fn o a w S K' := by
  rcases hh with hh | ⟨f, args, R, h1, h2, h3⟩
  · exact .inl fun w₁ h₁ => by obtain ⟨u, w', a1, a2, a3, a4⟩ := hh w₁ h₁; exact ⟨u, w', a1, a2, a3, h _ _ _ a4⟩
  · exact .inr ⟨f, args, R, h1, h2, fun v w' S' q => h _ _ _ (h3 v w' S' q)⟩
theorem opJ_rely {o : Oper} {a : Act} {w w₁ : World} {S : Sh} {K : Act → World → Sh → Prop} (hh : opJ P fn o a w S K) (hr : AtRel w w₁) : opJ P fn o a w₁ S K := by
  rcases hh with hh | ⟨f, args, R, h1, h2, h3⟩
  · exact .inl fun w₂ h₂ => hh w₂ (atRel_trans _ _ _ hr h₂)
  · exact .inr ⟨f, args, R, fun w₂ h₂ => h1 w₂ (atRel_trans _ _ _ hr h₂), h2.rely hr, h3⟩
theorem opsE_of_opJ {i : Nat} {rest : List Nat} {o : Oper} {a : Act} {w : World} {S : Sh} (ho : ops[i]? = some o) (hw : Region.wanted o (yielded ops a.tmps) = true) (h : opJ P fn o a w S (opsE P fn ops rest Q)) : opsE P fn ops (i :: rest) Q a w S := by
  rcases h with h | ⟨f, args, R, h1, h2, h3⟩
  · exact opsE_value ho hw h
  · exact opsE_call ho hw h1 h2 h3
/-- operation number i comes up -/
def OpE (P : Program) (fn : FuncId) (ops : Array Oper) (i : Nat) (K : Act → World → Sh → Prop) (a : Act) (w : World) (S : Sh) : Prop :=
  match ops[i]? with
  | none => False
  | some o => if Region.wanted o (yielded ops a.tmps) then opJ P fn o a w S K else K (a.put o.dst undef) w S
theorem OpE_mono {i : Nat} {a : Act} {w : World} {S : Sh} {K K' : Act → World → Sh → Prop} (h : ∀ a w S, K a w S → K' a w S) (hh : OpE P fn ops i K a w S) : OpE P fn ops i K' a w S := by
  unfold OpE at *
  split
  · simp_all
  · rename_i o ho
    simp only [ho] at hh
    split
    · rename_i hw; simp only [hw, if_true] at hh; exact opJ_mono h hh
    · rename_i hw; simp only [hw] at hh; exact h _ _ _ hh
theorem opsE_cons {i : Nat} {rest : List Nat} {a : Act} {w : World} {S : Sh} (h : OpE P fn ops i (opsE P fn ops rest Q) a w S) : opsE P fn ops (i :: rest) Q a w S := by
  unfold OpE at h
  split at h
  · exact h.elim
  · rename_i o ho
    split at h
    · rename_i hw; exact opsE_of_opJ ho hw h
    · rename_i hw; exact opsE_unwanted ho (by simpa using hw) h
/-- whatever order is picked from here on -/
def AnyE (P : Program) (fn : FuncId) (md : Region.Mode) (ops : Array Oper) (Q : Exit → Act → World → Sh → Prop) : Nat → Array Bool → Act → World → Sh → Prop
  | 0, listed, a, w, S => Region.ready md ops listed = [] ∧ Q .normal a w S
  | fuel + 1, listed, a, w, S => (Region.ready md ops listed = [] → Q .normal a w S) ∧ ∀ i ∈ Region.ready md ops listed, OpE P fn ops i (AnyE P fn md ops Q fuel (listed.setIfInBounds i true)) a w S
theorem anyE_sound : ∀ (fuel t : Nat) (listed : Array Bool) (a : Act) (w : World) (S : Sh), AnyE P fn md ops Q fuel listed a w S → opsE P fn ops (Region.linearise.go md ops fuel t listed []) Q a w S := by
  intro fuel
  induction fuel with
  | zero => intro t listed a w S h; simpa [Region.linearise.go] using opsE_nil h.2
  | succ fuel ih =>
    intro t listed a w S h
    obtain ⟨h₀, h₁⟩ := h
    simp only [Region.linearise.go]
    change opsE P fn ops (match (Region.ready md ops listed)[t % (Region.ready md ops listed).length]? with
      | some i => Region.linearise.go md ops fuel (t / (Region.ready md ops listed).length) (listed.setIfInBounds i true) [i]
      | none => [].reverse) Q a w S
    cases hi : (Region.ready md ops listed)[t % (Region.ready md ops listed).length]? with
    | none =>
      have hnil : Region.ready md ops listed = [] := by
        cases hr : Region.ready md ops listed with
        | nil => rfl
        | cons x xs =>
          rw [hr] at hi
          have hlt : t % (x :: xs).length < (x :: xs).length := Nat.mod_lt _ (by simp)
          simp at hi
          simp at hlt
          omega
      simpa using opsE_nil (h₀ hnil)
    | some i =>
      simp only []
      rw [linearise_go_acc, List.reverse_singleton, List.singleton_append]
      exact opsE_cons (OpE_mono (fun a w S => ih _ _ a w S) (h₁ i (List.mem_of_getElem? hi)))
theorem wpE_region_any {id : Nat} {a : Act} {w : World} {S : Sh} (hm : P.follows .mixedOrders = true) (h : AnyE P fn .any ops Q ops.size (Array.replicate ops.size false) a w S) : wpE P fn (.region id ops true) Q a w S :=
  wpE_region_draw fun t => by
    simp only [Region.schedule, hm, Bool.true_or, if_true]
    exact anyE_sound ops.size t _ a _ S h
end
end Go.Proofs.YtekpddiahnaomaaGreatDoor.AW
