/- How a walk is meant: alone, or beside goroutines that only leave. -/
import Derived.Test.YtdjoodbidcncaaaGreatDoorMAxA
import Derived.Test.YtdjoodbidcncaaaGreatDoorMAxCa
import Derived.Orders
import Derived.Laws.IdiomCopy
import Derived.Conc.Events
set_option linter.unusedVariables false
set_option linter.unusedSimpArgs false
namespace Go.Proofs.YtdjoodbidcncaaaGreatDoor.AW
open Go Go.Conc

/-- the events of an operation: plain accesses of cells that it may touch, or new ones -/
def EvOk (E : Emb) (w w' : World) (es : Array Event) : Prop := ∀ e ∈ es, ((e = ⟨.mark .noRoom, false, true⟩ ∨ ∃ f, e = ⟨.mark (.extern f), false, true⟩) ∨ ∃ r wr sy, e = ⟨.obj r, wr, sy⟩ ∧ r < w'.heap.size) ∨ ∃ ad wr, e = ⟨.cell ad, wr, false⟩ ∧ (E.pr ad.block ∨ (∃ b, E.U b ∧ ¬ E.gh b ∧ ad.block = E.blk b) ∨ w.heap.size ≤ ad.block) ∧ ad.block < w'.heap.size
def shunOf (S : Nat → Prop) : Sh := fun l => ∃ a, l = .cell a ∧ S a.block
structure Safe (S : Nat → Prop) (E : Emb) (w : World) : Prop where
  pr : ∀ r, E.pr r → ¬ S r
  un : ∀ b, E.U b → ¬ E.gh b → ¬ S (E.blk b)
  lt : ∀ r, S r → r < w.heap.size
  ul : ∀ b, E.U b → ¬ E.gh b → E.blk b < w.heap.size
theorem Safe.ext {S : Nat → Prop} {E E' : Emb} {w w' : World} {K : Nat → Prop} (h : Safe S E w) (x : Ext K E w E' w') : Safe S E' w' := by
  refine ⟨fun r hr hs => ?_, fun b hb hg hs => ?_, fun r hs => Nat.lt_of_lt_of_le (h.lt r hs) x.sz, fun b hb hg => ?_⟩
  · rcases x.pn r hr with h1 | h1 | ⟨c, h1, h2, h3⟩
    · exact h.pr r h1 hs
    · have := h.lt r hs; omega
    · exact h.un c h1 h2 (h3 ▸ hs)
  · rcases x.un b hb hg with h1 | ⟨c, h1, h2, h3⟩
    · have := h.lt _ hs; omega
    · exact h.un c h1 h2 (h3 ▸ hs)
  · rcases x.un b hb hg with h1 | ⟨c, h1, h2, h3⟩
    · exact h1.2
    · rw [h3]; exact Nat.lt_of_lt_of_le (h.ul c h1 h2) x.sz
theorem Safe.join {S S' : Nat → Prop} {E E₁ E' : Emb} {w w' : World} (h : Safe S E w) (h₁ : Safe S' E₁ w') (hl : ∀ r, S' r → S r ∨ w.heap.size ≤ r) (hsz : w.heap.size ≤ w'.heap.size) (hpl : ∀ r, E.pr r → r < w.heap.size) (hp : ∀ r, E'.pr r → E.pr r ∨ E₁.pr r)
    (hu : ∀ b, E'.U b → ¬ E'.gh b → (∃ c, E.U c ∧ ¬ E.gh c ∧ E'.blk b = E.blk c) ∨ ∃ c, E₁.U c ∧ ¬ E₁.gh c ∧ E'.blk b = E₁.blk c) : Safe S' E' w' := by
  refine ⟨fun r hr hs => ?_, fun b hb hg hs => ?_, h₁.lt, fun b hb hg => ?_⟩
  · rcases hp r hr with h1 | h1
    · rcases hl r hs with h2 | h2
      · exact h.pr r h1 h2
      · have := hpl r h1; omega
    · exact h₁.pr r h1 hs
  · rcases hu b hb hg with ⟨c, h1, h2, h3⟩ | ⟨c, h1, h2, h3⟩
    · rw [h3] at hs
      rcases hl _ hs with h4 | h4
      · exact h.un c h1 h2 h4
      · have := h.ul c h1 h2; omega
    · exact h₁.un c h1 h2 (h3 ▸ hs)
  · rcases hu b hb hg with ⟨c, h1, h2, h3⟩ | ⟨c, h1, h2, h3⟩
    · rw [h3]; exact Nat.lt_of_lt_of_le (h.ul c h1 h2) hsz
    · rw [h3]; exact h₁.ul c h1 h2
theorem Safe.ev {S : Nat → Prop} {E : Emb} {w w' : World} {es : Array Event} (h : Safe S E w) (he : EvOk E w w' es) : ∀ e ∈ es, EvL (shunOf S) w'.heap.size e := by
  intro e hm
  rcases he e hm with ((rfl | ⟨f, rfl⟩) | ⟨r, wr, sy, rfl, h1⟩) | ⟨ad, wr, rfl, h1, h2⟩
  · exact ⟨fun x hx => by simp [MemAct.ofEvent, MemAct.touch?] at hx, by simp, by simp, trivial⟩
  · exact ⟨fun x hx => by simp [MemAct.ofEvent, MemAct.touch?] at hx, by simp, by simp, trivial⟩
  · by_cases hcl : wr = true ∧ sy = true
    · obtain ⟨rfl, rfl⟩ := hcl
      exact ⟨fun x hx => by simp [MemAct.ofEvent, MemAct.touch?] at hx, by simp, by simp, h1⟩
    have e0 : MemAct.ofEvent ⟨.obj r, wr, sy⟩ = .access ⟨.obj r, wr, sy⟩ := by cases wr <;> cases sy <;> first | rfl | (simp at hcl)
    refine ⟨fun x hx hs => ?_, by simp, by simp, by rw [e0]; exact h1⟩
    simp only [e0, MemAct.touch?, Option.some.injEq] at hx
    subst hx
    obtain ⟨a, ha, _⟩ := hs
    cases ha
  refine evL_cell ad wr ?_ h2
  rintro ⟨a, ha, hs⟩
  cases ha
  rcases h1 with h1 | ⟨b, h1, h3, h4⟩ | h1
  · exact h.pr _ h1 hs
  · exact h.un b h1 h3 (h4 ▸ hs)
  · have := h.lt _ hs; omega

/-- ████ a mode ████ -/
structure Mode (P : Program) where
  X : Type
  ok : X → Emb → World → Prop
  le : X → Nat → X → Prop
  leRefl : ∀ x n, le x n x
  leTrans : ∀ {x n x' n' x''}, le x n x' → le x' n' x'' → n ≤ n' → le x n x''
  Rel : World → World → Prop
  evs : X → World → Array Event → Prop
  Op : FuncId → Oper → Act → World → X → (Act → World → X → Prop) → Prop
  Code : FuncId → Code → (Exit → Act → World → X → Prop) → Act → World → X → Prop
  Calls : FuncId → Array Value → World → X → (Value → World → X → Prop) → Prop
section
variable {P : Program}
def Mode.opM (M : Mode P) (fn : FuncId) (ops : Array Oper) (i : Nat) (K : Act → World → M.X → Prop) (a : Act) (w : World) (x : M.X) : Prop :=
  match ops[i]? with
  | none => False
  | some o => if Region.wanted o (yielded ops a.tmps) then M.Op fn o a w x K else K (a.put o.dst undef) w x
def Mode.opsM (M : Mode P) (fn : FuncId) (ops : Array Oper) (Q : Exit → Act → World → M.X → Prop) : List Nat → Act → World → M.X → Prop
  | [], a, w, x => Q .normal a w x
  | i :: rest, a, w, x => M.opM fn ops i (fun a w x => Mode.opsM M fn ops Q rest a w x) a w x
def Mode.anyM (M : Mode P) (fn : FuncId) (ops : Array Oper) (Q : Exit → Act → World → M.X → Prop) : Nat → Array Bool → Act → World → M.X → Prop
  | 0, done, a, w, x => Region.ready .any ops done = [] ∧ Q .normal a w x
  | fuel + 1, done, a, w, x => (Region.ready .any ops done = [] → Q .normal a w x) ∧ ∀ i ∈ Region.ready .any ops done, M.opM fn ops i (fun a w x => Mode.anyM M fn ops Q fuel (done.setIfInBounds i true) a w x) a w x
def Mode.thenM (M : Mode P) (K : Act → World → M.X → Prop) (Q : Exit → Act → World → M.X → Prop) : Exit → Act → World → M.X → Prop
  | .normal => K
  | e => Q e
def Mode.blockM (M : Mode P) (id : Nat) (Q : Exit → Act → World → M.X → Prop) : Exit → Act → World → M.X → Prop
  | .exit id' => if id' = id then Q .normal else Q (.exit id')
  | e => Q e
def Mode.bodyM (M : Mode P) (f : FuncId) (fn : Func) (R : Value → World → M.X → Prop) : Exit → Act → World → M.X → Prop
  | .normal, a, w, x | .ret, a, w, x => a.defers = [] ∧ ∀ w₁, M.Rel w w₁ → ∃ v, (results fn a.tmps).run P w₁ = .ok v w₁ ∧ M.evs x w₁ (seen P f ((results fn a.tmps).events P w₁ #[])) ∧ R v w₁ x
  | _, _, _, _ => False
/-- the rules of a mode -/
structure Mode.Sound (M : Mode P) : Prop where
  rel : ∀ {w w₁}, M.Rel w w₁ → w₁.heap = w.heap ∧ SameIO w w₁
  okExt : ∀ {x E w E' w' K}, M.ok x E w → Ext K E w E' w' → M.ok x E' w'
  okJoin : ∀ {x E w x' E₁ w' E'}, M.ok x E w → M.ok x' E₁ w' → M.le x w.heap.size x' → w.heap.size ≤ w'.heap.size → (∀ r, E.pr r → r < w.heap.size) → (∀ r, E'.pr r → E.pr r ∨ E₁.pr r) →
    (∀ b, E'.U b → ¬ E'.gh b → (∃ c, E.U c ∧ ¬ E.gh c ∧ E'.blk b = E.blk c) ∨ ∃ c, E₁.U c ∧ ¬ E₁.gh c ∧ E'.blk b = E₁.blk c) → (∀ r, E.pr r → E'.pr r) → (∀ r, E.fr r → E'.fr r) → M.ok x' E' w'
  okEv : ∀ {x E w w' es}, M.ok x E w → EvOk E w w' es → M.evs x w' es
  evSub : ∀ {x w es es'}, M.evs x w es → (∀ e ∈ es', e ∈ es) → M.evs x w es'
  opMono : ∀ {fn o a w x K K'}, (∀ a w x, K a w x → K' a w x) → M.Op fn o a w x K → M.Op fn o a w x K'
  opVal : ∀ {fn o a w x K}, (∀ w₁, M.Rel w w₁ → ∃ u w', ((execOp a.eval o).run P w₁ = .ok (.value u) w' ∨ ((execOp a.eval o).run P w₁ = .ok .skip w' ∧ u = undef)) ∧ w₁.heap.size ≤ w'.heap.size ∧ M.evs x w' (listed P fn a o w₁) ∧ K (a.put o.dst u) w' x) → M.Op fn o a w x K
  opCall : ∀ {fn o a w x K f args R}, (∀ w₁, M.Rel w w₁ → (execOp a.eval o).run P w₁ = .ok (.enter f args) w₁ ∧ M.evs x w₁ (listed P fn a o w₁)) → M.Calls f args w x R → (∀ v w' x', R v w' x' → K (a.put o.dst v) w' x') → M.Op fn o a w x K
  mono : ∀ {fn c Q Q' a w x}, M.Code fn c Q a w x → (∀ e a w x, Q e a w x → Q' e a w x) → M.Code fn c Q' a w x
  skip : ∀ {fn Q a w x}, Q .normal a w x → M.Code fn .skip Q a w x
  label : ∀ {fn l Q a w x}, Q .normal a w x → M.Code fn (.label l) Q a w x
  ret : ∀ {fn Q a w x}, Q .ret a w x → M.Code fn .ret Q a w x
  exit : ∀ {fn id Q a w x}, Q (.exit id) a w x → M.Code fn (.exit id) Q a w x
  seq : ∀ {fn c d Q a w x}, M.Code fn c (M.thenM (M.Code fn d Q) Q) a w x → M.Code fn (.seq c d) Q a w x
  cond : ∀ {fn c d e t Q a w x}, a.eval c = .bool t → M.Code fn (if t then d else e) Q a w x → M.Code fn (.cond c d e) Q a w x
  block : ∀ {fn id c Q a w x}, M.Code fn c (M.blockM id Q) a w x → M.Code fn (.block id c) Q a w x
  loop : ∀ {fn c Q a w x} {Y : Type} (J : Y → Act → World → M.X → Prop) (μ : Y → Nat) (y₀ : Y), J y₀ a w x → (∀ y a w x, J y a w x → M.Code fn c (M.thenM (fun a' w' x' => ∃ y', J y' a' w' x' ∧ μ y' < μ y) Q) a w x) → M.Code fn (.loop c) Q a w x
  region : ∀ {fn id ops Q a w x}, M.opsM fn ops Q (List.range ops.size) a w x → M.Code fn (.region id ops false) Q a w x
  regionAny : ∀ {fn id ops Q a w x}, P.follows .mixedOrders = true → (∀ w₁, w₁.heap = w.heap → SameIO w w₁ → M.anyM fn ops Q ops.size (Array.replicate ops.size false) a w₁ x) → M.Code fn (.region id ops true) Q a w x
  callsMono : ∀ {f args w x R R'}, M.Calls f args w x R → (∀ v w x, R v w x → R' v w x) → M.Calls f args w x R'
/-- functions are entered -/
structure Mode.Enters (M : Mode P) : Prop where
  callsOf : ∀ {f fn c args w x R}, P.funcs[f]? = some fn → (fn.name == "runtime.NumGoroutine") = false → fn.body = some c → M.Code f c (M.bodyM f fn R) { tmps := args ++ Array.replicate (fn.ntmps - args.size) undef, defers := [] } w x → M.Calls f args w x R
end

/-- variables of packages that are known to hold this -/
def Gl (gl : List (Nat × Value)) (E : Emb) (w : World) : Prop := ∀ p ∈ gl, E.pr p.1 ∧ E.fr p.1 ∧ cellAt w p.1 0 = some p.2
theorem Gl.ext {gl : List (Nat × Value)} {K : Nat → Prop} {E E' : Emb} {w w' : World} (h : Gl gl E w) (x : Ext K E w E' w') : Gl gl E' w' := fun p hp => by
  obtain ⟨h1, h2, h3⟩ := h p hp
  exact ⟨x.pr _ h1, x.fr _ h2, (cellAt_congr (x.keep _ h2) _).trans h3⟩
theorem Gl.join {gl : List (Nat × Value)} {E E₁ E' : Emb} {w w' : World} (h : Gl gl E w) (h₁ : Gl gl E₁ w') (hp : ∀ r, E.pr r → E'.pr r) (hf : ∀ r, E.fr r → E'.fr r) : Gl gl E' w' := fun p hm => by
  obtain ⟨h1, h2, _⟩ := h p hm
  exact ⟨hp _ h1, hf _ h2, (h₁ p hm).2.2⟩

/-- in company -/
def company (P : Program) (gl : List (Nat × Value)) : Mode P := { X := Sh, ok := fun S E w => (∃ S₀, S = shunOf S₀ ∧ Safe S₀ E w) ∧ Gl gl E w, le := fun S n S' => ∀ r, S' (.cell ⟨r, 0, none⟩) → S (.cell ⟨r, 0, none⟩) ∨ n ≤ r, leRefl := fun _ _ _ h => .inl h, leTrans := fun h h' hn r hr => (h' r hr).elim (h r) fun g => .inr (Nat.le_trans hn g), Rel := AtRel, evs := fun S w es => ∀ e ∈ es, EvL S w.heap.size e, Op := fun fn o a w S K => opJ P fn o a w S K, Code := fun fn c Q a w S => wpE P fn c Q a w S, Calls := fun f args w S R => CallsE P f args w S R }
theorem company_sound (P : Program) (gl : List (Nat × Value)) : (company P gl).Sound where
  rel := fun ⟨d, e⟩ => by subst e; exact ⟨rfl, rfl, rfl, rfl⟩
  okExt := fun ⟨⟨S₀, e, h⟩, hg⟩ x => ⟨⟨S₀, e, h.ext x⟩, hg.ext x⟩
  okJoin := fun ⟨⟨S₀, e, h⟩, hg⟩ ⟨⟨S₁, e₁, h₁⟩, hg₁⟩ hl hsz hpl hp hu hpp hff => by
    subst e; subst e₁
    refine ⟨⟨S₁, rfl, h.join h₁ (fun r hr => ?_) hsz hpl hp hu⟩, hg.join hg₁ hpp hff⟩
    rcases hl r ⟨_, rfl, hr⟩ with ⟨a, ea, ha⟩ | g
    · cases ea; exact .inl ha
    · exact .inr g
  okEv := fun ⟨⟨S₀, e, h⟩, _⟩ he => by subst e; exact h.ev he
  evSub := fun h hs e he => h e (hs e he)
  opMono := fun h hh => opJ_mono h hh
  opVal := fun h => .inl h
  opCall := fun h1 h2 h3 => .inr (.inl ⟨_, _, _, h1, h2, h3⟩)
  mono := fun h hq => wpE_mono h hq
  skip := fun h => wpE_skip h
  label := fun h => wpE_label h
  ret := fun h => wpE_ret h
  exit := fun h => wpE_exit h
  seq := fun h => wpE_seq (wpE_mono h fun e a w S q => by cases e <;> exact q)
  cond := fun hc h => wpE_cond hc h
  block := fun h => wpE_block (wpE_mono h fun e a w S q => by cases e <;> exact q)
  loop := fun J μ y₀ h₀ round => wpE_loop J μ y₀ h₀ fun y a w S hJ => wpE_mono (round y a w S hJ) fun e a w S q => by cases e <;> exact q
  region := fun {fn id ops Q a w x} h => wpE_region (by
    have key : ∀ (l : List Nat) a w x, (company P gl).opsM fn ops Q l a w x → opsE P fn ops l Q a w x := fun l => by
      induction l with
      | nil => exact fun a w x h => opsE_nil h
      | cons i l ih => exact fun a w x h => opsE_cons (OpE_mono (fun a w S => ih a w S) (show OpE P fn ops i (fun a w x => (company P gl).opsM fn ops Q l a w x) a w x from h))
    exact key _ _ _ _ h)
  regionAny := fun {fn id ops Q a w x} hm h => wpE_region_any hm (by
    have key : ∀ (n : Nat) (done : Array Bool) a w x, (company P gl).anyM fn ops Q n done a w x → AnyE P fn .any ops Q n done a w x := fun n => by
      induction n with
      | zero => exact fun done a w x h => h
      | succ n ih => exact fun done a w x h => ⟨h.1, fun i hi => OpE_mono (fun a w S => ih _ a w S) (show OpE P fn ops i (fun a w x => (company P gl).anyM fn ops Q n (done.setIfInBounds i true) a w x) a w x from h.2 i hi)⟩
    exact key _ _ _ _ _ (h w rfl ⟨rfl, rfl, rfl⟩))
  callsMono := fun h hr => CallsE.mono h hr
theorem company_enters (P : Program) (gl : List (Nat × Value)) : (company P gl).Enters where
  callsOf := fun hf _ hb h => callsE_of_wpE hf hb (wpE_mono h fun e a w S q => by cases e <;> exact q)

end Go.Proofs.YtdjoodbidcncaaaGreatDoor.AW

/- Beside leavers, with a call deferred below all that the walk knows of. -/
namespace Go.Proofs.YtdjoodbidcncaaaGreatDoor.AW
open Go Go.Conc

/-- the act, with a call deferred below -/
def up (D : Deferred) (a : Act) : Act := { a with defers := a.defers ++ [D] }
theorem up_put (D : Deferred) (a : Act) (d : Option Nat) (v : Value) : (up D a).put d v = up D (a.put d v) := by cases d <;> rfl
def upQ (D : Deferred) (Q : Exit → Act → World → Sh → Prop) : Exit → Act → World → Sh → Prop := fun e a' w' S' => ∃ a, a' = up D a ∧ Q e a w' S'
def upK (D : Deferred) (K : Act → World → Sh → Prop) : Act → World → Sh → Prop := fun a' w' S' => ∃ a, a' = up D a ∧ K a w' S'
def dfs (P : Program) (gl : List (Nat × Value)) (D : Deferred) : Mode P := { company P gl with Op := fun fn o a w S K => opJ P fn o (up D a) w S (upK D K), Code := fun fn c Q a w S => wpE P fn c (upQ D Q) (up D a) w S }
theorem dfs_opM {P : Program} {gl : List (Nat × Value)} {D : Deferred} {fn : FuncId} {ops : Array Oper} {i : Nat} {K : Act → World → Sh → Prop} {K' : Act → World → Sh → Prop} {a : Act} {w : World} {x : Sh}
    (h : (dfs P gl D).opM fn ops i K a w x) (hk : ∀ a w x, K a w x → K' (up D a) w x) : OpE P fn ops i K' (up D a) w x := by
  unfold Mode.opM at h
  unfold OpE
  split at h
  · exact h.elim
  · rename_i o ho
    simp only [ho]
    have e : yielded ops (up D a).tmps = yielded ops a.tmps := rfl
    rw [e]
    split at h
    · rename_i hw
      rw [if_pos hw]
      exact opJ_mono (fun a' w' S' ⟨a0, e0, q⟩ => by subst e0; exact hk _ _ _ q) h
    · rename_i hw
      rw [if_neg hw, up_put]
      exact hk _ _ _ h
theorem dfs_sound (P : Program) (gl : List (Nat × Value)) (D : Deferred) : (dfs P gl D).Sound where
  rel := (company_sound P gl).rel
  okExt := (company_sound P gl).okExt
  okJoin := (company_sound P gl).okJoin
  okEv := (company_sound P gl).okEv
  evSub := (company_sound P gl).evSub
  opMono := fun h hh => opJ_mono (fun a w S ⟨a0, e0, q⟩ => ⟨a0, e0, h _ _ _ q⟩) hh
  opVal := fun h => .inl fun w₁ h₁ => by
    obtain ⟨u, w', h1, h2, h3, h4⟩ := h w₁ h₁
    exact ⟨u, w', h1, h2, h3, _, up_put .., h4⟩
  opCall := fun h1 h2 h3 => .inr (.inl ⟨_, _, _, h1, h2, fun v w' x' q => ⟨_, up_put .., h3 v w' x' q⟩⟩)
  mono := fun h hq => wpE_mono h fun e a w S ⟨a0, e0, q⟩ => ⟨a0, e0, hq _ _ _ _ q⟩
  skip := fun h => wpE_skip ⟨_, rfl, h⟩
  label := fun h => wpE_label ⟨_, rfl, h⟩
  ret := fun h => wpE_ret ⟨_, rfl, h⟩
  exit := fun h => wpE_exit ⟨_, rfl, h⟩
  seq := fun h => wpE_seq (wpE_mono h fun e a w S ⟨a0, e0, q⟩ => by
    subst e0
    cases e with
    | normal => exact q
    | _ => exact ⟨a0, rfl, q⟩)
  cond := fun hc h => wpE_cond (show (up D _).eval _ = _ from hc) h
  block := fun {fn id c Q a w x} h => wpE_block (wpE_mono h fun e a w S ⟨a0, e0, q⟩ => by
    subst e0
    cases e with
    | exit id' =>
      simp only [Mode.blockM] at q
      simp only [BlockE]
      split at q
      · rename_i h1; rw [if_pos h1]; exact ⟨a0, rfl, q⟩
      · rename_i h1; rw [if_neg h1]; exact ⟨a0, rfl, q⟩
    | _ => exact ⟨a0, rfl, q⟩)
  loop := fun J μ y₀ h₀ round => wpE_loop (fun y a' w S => ∃ a, a' = up D a ∧ J y a w S) μ y₀ ⟨_, rfl, h₀⟩ fun y a' w S ⟨a, e, hJ⟩ => by
    subst e
    refine wpE_mono (round y a w S hJ) fun e a' w S ⟨a0, e0, q⟩ => ?_
    subst e0
    cases e with
    | normal => obtain ⟨y', h1, h2⟩ := q; exact ⟨y', ⟨a0, rfl, h1⟩, h2⟩
    | _ => exact ⟨a0, rfl, q⟩
  region := fun {fn id ops Q a w x} h => wpE_region (by
    have key : ∀ (l : List Nat) a w x, (dfs P gl D).opsM fn ops Q l a w x → opsE P fn ops l (upQ D Q) (up D a) w x := fun l => by
      induction l with
      | nil => exact fun a w x h => opsE_nil ⟨a, rfl, h⟩
      | cons i l ih => exact fun a w x h => opsE_cons (dfs_opM (K := fun a w x => (dfs P gl D).opsM fn ops Q l a w x) h ih)
    exact key _ _ _ _ h)
  regionAny := fun {fn id ops Q a w x} hm h => wpE_region_any hm (by
    have key : ∀ (n : Nat) (done : Array Bool) a w x, (dfs P gl D).anyM fn ops Q n done a w x → AnyE P fn .any ops (upQ D Q) n done (up D a) w x := fun n => by
      induction n with
      | zero => exact fun done a w x h => ⟨h.1, a, rfl, h.2⟩
      | succ n ih => exact fun done a w x h => ⟨fun hr => ⟨a, rfl, h.1 hr⟩, fun i hi => dfs_opM (K := fun a w x => (dfs P gl D).anyM fn ops Q n (done.setIfInBounds i true) a w x) (h.2 i hi) (ih _)⟩
    exact key _ _ _ _ _ (h w rfl ⟨rfl, rfl, rfl⟩))
  callsMono := (company_sound P gl).callsMono
end Go.Proofs.YtdjoodbidcncaaaGreatDoor.AW

/- An operation's effect on an abstract state; a region whose operations come in whatever order. -/
namespace Go.Proofs.YtdjoodbidcncaaaGreatDoor.AW
open Go

/-- two ways -/
structure Br (q : Bool) (A B : Prop) : Prop where
  t : q = true → A
  f : q = false → B
theorem Br.yes {q : Bool} {A B : Prop} (h : q = true) (a : A) : Br q A B := ⟨fun _ => a, (fun e => by rw [h] at e; cases e)⟩
theorem Br.no {q : Bool} {A B : Prop} (h : q = false) (b : B) : Br q A B := ⟨(fun e => by rw [h] at e; cases e), fun _ => b⟩
/-- a condition that is decided at sight -/
def ck (b : Bool) (p : Prop) : Prop := match b with
  | true => p
  | false => False
theorem ck_out {b : Bool} {p : Prop} (h : ck b p) : b = true ∧ p := by cases b with | true => exact ⟨rfl, h⟩ | false => exact h.elim
theorem ck_in {b : Bool} {p : Prop} (h : b = true ∧ p) : ck b p := by obtain ⟨rfl, h⟩ := h; exact h

def ofOne (v : Value) : AV := if oneV v then .cv (.sc v) else .any
def ofVal : Value → AV
  | .agg cs => .agg (cs.toList.map ofOne)
  | .tuple _ => .any
  | v => .cv (.sc v)
theorem rep_ofOne (w : World) (E : Emb) (v : Value) : RepA w E (ofOne v) v := by
  unfold ofOne
  split
  · exact .cv _ _ (.sc _ (by assumption))
  · exact .any _

def ev (T : Nat → AV) : Operand → AV
  | .tmp t => T t
  | .const v => ofVal v
  | .global _ => .any
  | .func f => .cv (.sc (.func (.func f) #[] #[]))

theorem rep_ofVal (w : World) (E : Emb) (v : Value) : RepA w E (ofVal v) v := by
  cases v with
  | agg cs =>
    refine .agg _ _ (by simp) fun k x hx => ?_
    simp only [List.getElem?_map, Option.map_eq_some_iff] at hx
    obtain ⟨c, h1, rfl⟩ := hx
    have h1 : cs[k]? = some c := by simpa using h1
    rw [Array.getD_eq_getD_getElem?, h1]
    exact rep_ofOne w E c
  | tuple _ => exact .any _
  | _ => exact .cv _ _ (.sc _ rfl)

theorem rep_ev {N : Nat} {E : Emb} {T : Nat → AV} {a : Act} {w : World} (h : TInv N E T a w) (x : Operand) : RepA w E (ev T x) (a.eval x) := by
  cases x with
  | tmp t => exact h.tm t
  | const v => exact rep_ofVal w E v
  | global g => exact .any _
  | func f => exact .cv _ _ (.sc _ rfl)

structure Eff where
  v : AV
  wr : List (Nat × Option Block)
  nw : List Nat
  rd : List Nat

def updH (H : Nat → Option Block) : List (Nat × Option Block) → Nat → Option Block
  | [] => H
  | p :: l => updH (setH H p.1 p.2) l

def OpAt {P : Program} (M : Mode P) (o : Oper) (N : Nat) (T : Nat → AV) (H : Nat → Option Block) (e : Eff) : Prop :=
  ∀ (fn : FuncId) (E : Emb) (a : Act) (w : World) (x : M.X) (K : Act → World → M.X → Prop), TInv N E T a w → HInv E H w → M.ok x E w → (∀ b ∈ e.nw, ¬ E.U b) →
    (∀ u E' w' x', RepA w' E' e.v u → HInv E' (updH H e.wr) w' → M.ok x' E' w' → M.le x w.heap.size x' → Ext E.U E w E' w' → (∀ b, E'.U b ↔ E.U b ∨ b ∈ e.nw) → K (a.put o.dst u) w' x') → M.Op fn o a w x K

def OpLoc {P : Program} (M : Mode P) (o : Oper) (N : Nat) (T : Nat → AV) (H : Nat → Option Block) (e : Eff) : Prop :=
  ∀ T' H', (∀ x ∈ o.op.operands, ev T' x = ev T x) → (∀ b ∈ e.rd, H' b = H b) → OpAt M o N T' H' e

structure Ent where
  on : Bool
  e : Eff

def offEnt : Ent := ⟨false, ⟨.tup [], [], [], []⟩⟩

def Tf (op : Nat → Oper) (tab : Nat → Ent) (S : Nat → Bool) (T : Nat → AV) : Nat → Nat → AV
  | 0 => T
  | m + 1 => if S m then setT (Tf op tab S T m) (op m).dst (tab m).e.v else Tf op tab S T m
def Hf (tab : Nat → Ent) (S : Nat → Bool) (H : Nat → Option Block) : Nat → Nat → Option Block
  | 0 => H
  | m + 1 => if S m then updH (Hf tab S H m) (tab m).e.wr else Hf tab S H m

/-- two operations that must come in a fixed order -/
structure Apart (ops : Array Oper) (o o' : Oper) (e e' : Eff) : Prop where
  l1 : ∀ d, o.dst = some d → d ∉ o'.looksAt ops
  l2 : ∀ d, o'.dst = some d → d ∉ o.looksAt ops
  dd : ∀ d, o.dst = some d → o'.dst ≠ some d
  h1 : ∀ p ∈ e.wr, p.1 ∉ e'.rd
  h2 : ∀ p ∈ e'.wr, p.1 ∉ e.rd
  hh : ∀ p ∈ e.wr, ∀ q ∈ e'.wr, p.1 ≠ q.1

theorem updH_not {l : List (Nat × Option Block)} : ∀ {H : Nat → Option Block} {b : Nat}, (∀ p ∈ l, p.1 ≠ b) → updH H l b = H b := by
  induction l with
  | nil => intro H b _; rfl
  | cons p l ih =>
    intro H b h
    simp only [updH]
    rw [ih fun q hq => h q (List.mem_cons_of_mem _ hq)]
    simp [setH, Ne.symm (h p (List.mem_cons_self ..))]
theorem updH_congr {l : List (Nat × Option Block)} : ∀ {H G : Nat → Option Block} {b : Nat}, H b = G b → updH H l b = updH G l b := by
  induction l with
  | nil => intro H G b h; exact h
  | cons p l ih =>
    intro H G b h
    simp only [updH]
    refine ih ?_
    by_cases e : b = p.1 <;> simp [setH, e, h]
theorem setT_not {T : Nat → AV} {d : Option Nat} {v : AV} {t : Nat} (h : d ≠ some t) : setT T d v t = T t := by
  cases d with
  | none => rfl
  | some d => simp [setT, show t ≠ d from fun e => h (e ▸ rfl)]
theorem setT_congr {T T' : Nat → AV} {d : Option Nat} {v : AV} {t : Nat} (h : T t = T' t) : setT T d v t = setT T' d v t := by
  cases d with
  | none => exact h
  | some d => simp [setT, h]

section
variable {op : Nat → Oper} {tab : Nat → Ent} {T : Nat → AV} {H : Nat → Option Block}

/-- a slot that only operations ahead of i write (all of them done), and none behind it (none of them done) -/
theorem Tf_at {S A : Nat → Bool} {i t : Nat} (hA : ∀ k, k < i → (op k).dst = some t → S k = A k) : ∀ m, i ≤ m → (∀ k, i ≤ k → k < m → (op k).dst = some t → S k = false) →
    Tf op tab S T m t = Tf op tab A T i t := by
  intro m hm hB
  induction m with
  | zero =>
    have : i = 0 := by omega
    subst this; rfl
  | succ m ih =>
    by_cases e : i = m + 1
    · subst e
      clear ih hB hm
      have key : ∀ j, j ≤ m + 1 → Tf op tab S T j t = Tf op tab A T j t := by
        intro j hj
        induction j with
        | zero => rfl
        | succ j ih =>
          have ih := ih (by omega)
          simp only [Tf]
          by_cases hd : (op j).dst = some t
          · rw [hA j (by omega) hd]
            split
            · exact setT_congr ih
            · exact ih
          · have f : ∀ (B : Nat → Bool) , (if B j then setT (Tf op tab B T j) (op j).dst (tab j).e.v else Tf op tab B T j) t = Tf op tab B T j t := by
              intro B; split
              · exact setT_not hd
              · rfl
            rw [f S, f A]; exact ih
      exact key _ (Nat.le_refl _)
    · have ih := ih (by omega) fun k h1 h2 => hB k h1 (by omega)
      simp only [Tf]
      by_cases hd : (op m).dst = some t
      · rw [hB m (by omega) (by omega) hd]; exact ih
      · split
        · rw [setT_not hd]; exact ih
        · exact ih

theorem Hf_at {S A : Nat → Bool} {i b : Nat} (hA : ∀ k, k < i → (∃ p ∈ (tab k).e.wr, p.1 = b) → S k = A k) : ∀ m, i ≤ m → (∀ k, i ≤ k → k < m → (∃ p ∈ (tab k).e.wr, p.1 = b) → S k = false) →
    Hf tab S H m b = Hf tab A H i b := by
  intro m hm hB
  induction m with
  | zero =>
    have : i = 0 := by omega
    subst this; rfl
  | succ m ih =>
    by_cases e : i = m + 1
    · subst e
      clear ih hB hm
      have key : ∀ j, j ≤ m + 1 → Hf tab S H j b = Hf tab A H j b := by
        intro j hj
        induction j with
        | zero => rfl
        | succ j ih =>
          have ih := ih (by omega)
          simp only [Hf]
          by_cases hd : ∃ p ∈ (tab j).e.wr, p.1 = b
          · rw [hA j (by omega) hd]
            split
            · exact updH_congr ih
            · exact ih
          · have hd' : ∀ p ∈ (tab j).e.wr, p.1 ≠ b := fun p hp e => hd ⟨p, hp, e⟩
            have f : ∀ (B : Nat → Bool), (if B j then updH (Hf tab B H j) (tab j).e.wr else Hf tab B H j) b = Hf tab B H j b := by
              intro B; split
              · exact updH_not hd'
              · rfl
            rw [f S, f A]; exact ih
      exact key _ (Nat.le_refl _)
    · have ih := ih (by omega) fun k h1 h2 => hB k h1 (by omega)
      simp only [Hf]
      by_cases hd : ∃ p ∈ (tab m).e.wr, p.1 = b
      · rw [hB m (by omega) (by omega) hd]; exact ih
      · have hd' : ∀ p ∈ (tab m).e.wr, p.1 ≠ b := fun p hp e => hd ⟨p, hp, e⟩
        split
        · rw [updH_not hd']; exact ih
        · exact ih

/-- one more operation is done -/
theorem Tf_put {S S' : Nat → Bool} {i : Nat} (hi : S' i = true) (hS : ∀ k, k ≠ i → S' k = S k) (hn : S i = false) : ∀ m, i < m → (∀ k d, i < k → k < m → S k = true → (op i).dst = some d → (op k).dst ≠ some d) →
    Tf op tab S' T m = setT (Tf op tab S T m) (op i).dst (tab i).e.v := by
  have below : ∀ j, j ≤ i → Tf op tab S' T j = Tf op tab S T j := by
    intro j hj
    induction j with
    | zero => rfl
    | succ j ih => simp only [Tf]; rw [hS j (by omega), ih (by omega)]
  intro m hm hd
  induction m with
  | zero => omega
  | succ m ih =>
    simp only [Tf]
    by_cases e : m = i
    · subst e
      rw [hi, hn, below m (Nat.le_refl _)]; simp
    · rw [hS m e]
      have ih := ih (by omega) fun k d h1 h2 => hd k d h1 (by omega)
      cases hk : S m with
      | false => simpa using ih
      | true =>
        simp only [if_true]
        rw [ih]
        funext t
        cases h1 : (op i).dst with
        | none => simp [setT]
        | some d =>
          have h2 := hd m d (by omega) (by omega) hk h1
          cases h3 : (op m).dst with
          | none => simp [setT]
          | some d' =>
            have : d' ≠ d := fun e => h2 (by rw [h3, e])
            by_cases e1 : t = d'
            · subst e1; simp [setT, this]
            · simp [setT, e1]

theorem updH_comm {l l' : List (Nat × Option Block)} {H : Nat → Option Block} (h : ∀ p ∈ l, ∀ q ∈ l', p.1 ≠ q.1) : updH (updH H l) l' = updH (updH H l') l := by
  funext b
  by_cases e : ∃ p ∈ l, p.1 = b
  · obtain ⟨p, hp, rfl⟩ := e
    rw [updH_not fun q hq => Ne.symm (h p hp q hq)]
    exact updH_congr (updH_not fun q hq => Ne.symm (h p hp q hq)).symm
  · have e : ∀ p ∈ l, p.1 ≠ b := fun p hp g => e ⟨p, hp, g⟩
    rw [updH_not (H := updH H l') e]
    exact updH_congr (updH_not e)

theorem Hf_put {S S' : Nat → Bool} {i : Nat} (hi : S' i = true) (hS : ∀ k, k ≠ i → S' k = S k) (hn : S i = false) : ∀ m, i < m → (∀ k, i < k → k < m → S k = true → ∀ p ∈ (tab i).e.wr, ∀ q ∈ (tab k).e.wr, p.1 ≠ q.1) →
    Hf tab S' H m = updH (Hf tab S H m) (tab i).e.wr := by
  have below : ∀ j, j ≤ i → Hf tab S' H j = Hf tab S H j := by
    intro j hj
    induction j with
    | zero => rfl
    | succ j ih => simp only [Hf]; rw [hS j (by omega), ih (by omega)]
  intro m hm hd
  induction m with
  | zero => omega
  | succ m ih =>
    simp only [Hf]
    by_cases e : m = i
    · subst e
      rw [hi, hn, below m (Nat.le_refl _)]; simp
    · rw [hS m e]
      have ih := ih (by omega) fun k h1 h2 => hd k h1 (by omega)
      cases hk : S m with
      | false => simpa using ih
      | true =>
        simp only [if_true]
        rw [ih, updH_comm (hd m (by omega) (by omega) hk)]
end

/-- what a guard sees -/
def yv : AV → Option (Option Bool)
  | .cv (.sc (.bool b)) => some (some b)
  | .cv (.sc _) | .tup _ => some none
  | _ => none
def asB : Value → Option Bool
  | .bool b => some b
  | _ => none
theorem yv_rep {w : World} {E : Emb} {x : AV} {v : Value} {r : Option Bool} (h : RepA w E x v) (hy : yv x = some r) : asB v = r := by
  cases h with
  | cv c v h =>
    cases h with
    | sc v ho =>
      cases v <;> simp [yv] at hy <;> simp [asB, hy]
    | _ => simp [yv] at hy
  | tup cs vs => simp [yv] at hy; simp [asB, hy]
  | _ => simp [yv] at hy

structure Tab {P : Program} (M : Mode P) (ops : Array Oper) (N : Nat) (T : Nat → AV) (H : Nat → Option Block) (nx : Nat) (op : Nat → Oper) (tab : Nat → Ent) (bef : Nat → Nat → Bool) : Prop where
  hop : ∀ i, i < ops.size → ops[i]? = some (op i)
  hdst : ∀ i, i < ops.size → ∀ d, (op i).dst = some d → d < N
  hguard : ∀ i, i < ops.size → match (op i).guard with
    | none => (tab i).on = true
    | some (j, want) => j < i ∧ bef j i = true ∧ ∃ d r, (op j).dst = some d ∧ yv (Tf op tab (fun _ => true) T i d) = some r ∧ (tab i).on = (r == some want)
  hon : ∀ i, i < ops.size → (tab i).on = true → OpLoc M (op i) N (Tf op tab (fun _ => true) T i) (Hf tab (fun _ => true) H i) (tab i).e
  hoff : ∀ i, i < ops.size → (tab i).on = false → (tab i) = offEnt
  hnw : ∀ i, i < ops.size → ∀ b ∈ (tab i).e.nw, nx ≤ b ∧ ∀ j, j < i → b ∉ (tab j).e.nw
  hap : ∀ i, i < ops.size → ∀ j, j < i → bef j i = true ∨ Apart ops (op j) (op i) (tab j).e (tab i).e

structure Before (ops : Array Oper) (op : Nat → Oper) (bef : Nat → Nat → Bool) : Prop where
  edge : ∀ i, i < ops.size → ∀ e ∈ (op i).after, Region.binds .any e = true → e.on < i
  trans : ∀ (S : Nat → Bool), ∀ i, i < ops.size → (∀ k, k < i → S k = true → ∀ e ∈ (op k).after, Region.binds .any e = true → S e.on = true) →
    (∀ e ∈ (op i).after, Region.binds .any e = true → S e.on = true) → ∀ j, bef j i = true → S j = true

section
variable {P : Program} {M : Mode P} {fn : FuncId} {ops : Array Oper} {N : Nat} {T : Nat → AV} {H : Nat → Option Block} {nx : Nat} {op : Nat → Oper} {tab : Nat → Ent} {bef : Nat → Nat → Bool}

/-- one operation, wherever it comes -/
theorem Tab.step (h : Tab M ops N T H nx op tab bef) (hb : Before ops op bef) {S S' : Nat → Bool} {i : Nat} (hi : i < ops.size) (hSn : S i = false)
    (hcl : ∀ k, k < ops.size → S k = true → ∀ e ∈ (op k).after, Region.binds .any e = true → S e.on = true)
    (hrd : ∀ e ∈ (op i).after, Region.binds .any e = true → S e.on = true) (hS'i : S' i = true) (hS' : ∀ k, k ≠ i → S' k = S k)
    {E : Emb} {a : Act} {w : World} {x : M.X} {K : Act → World → M.X → Prop} (ht : TInv N E (Tf op tab S T ops.size) a w) (hh : HInv E (Hf tab S H ops.size) w) (hk : M.ok x E w)
    (hU : ∀ b, E.U b → b < nx ∨ ∃ k, k < ops.size ∧ S k = true ∧ b ∈ (tab k).e.nw)
    (next : ∀ E' a' w' x', TInv N E' (Tf op tab S' T ops.size) a' w' → HInv E' (Hf tab S' H ops.size) w' → M.ok x' E' w' → M.le x w.heap.size x' → Ext E.U E w E' w' → (∀ b, E.U b → E'.U b) →
      (∀ b, E'.U b → b < nx ∨ ∃ k, k < ops.size ∧ S' k = true ∧ b ∈ (tab k).e.nw) → K a' w' x') : M.opM fn ops i K a w x := by
  have befS : ∀ k, k < ops.size → S k = true → ∀ j, bef j k = true → S j = true := fun k hk hs j hj =>
    hb.trans S k hk (fun l hl hsl => hcl l (by omega) hsl) (hcl k hk hs) j hj
  have befi : ∀ j, bef j i = true → S j = true := fun j hj => hb.trans S i hi (fun l hl hsl => hcl l (by omega) hsl) hrd j hj
  -- what comes behind i in the text and is done stands apart from it; what comes ahead and is not done, too
  have apB : ∀ k, i < k → k < ops.size → S k = true → Apart ops (op i) (op k) (tab i).e (tab k).e := fun k h1 h2 h3 => by
    rcases h.hap k h2 i h1 with g | g
    · have := befS k h2 h3 i g; rw [hSn] at this; cases this
    · exact g
  have apA : ∀ k, k < i → S k = false → Apart ops (op k) (op i) (tab k).e (tab i).e := fun k h1 h3 => by
    rcases h.hap i hi k h1 with g | g
    · have := befi k g; rw [h3] at this; cases this
    · exact g
  have look : ∀ t, t ∈ (op i).looksAt ops → Tf op tab S T ops.size t = Tf op tab (fun _ => true) T i t := fun t htl => by
    refine Tf_at (fun k hk hd => ?_) ops.size (by omega) fun k h1 h2 hd => ?_
    · cases hs : S k with
      | true => rfl
      | false => exact absurd htl ((apA k hk hs).l1 t hd)
    · by_cases e : k = i
      · exact e ▸ hSn
      · cases hs : S k with
        | false => rfl
        | true => exact absurd htl ((apB k (by omega) h2 hs).l2 t hd)
  have heap : ∀ b, b ∈ (tab i).e.rd → Hf tab S H ops.size b = Hf tab (fun _ => true) H i b := fun b hbr => by
    refine Hf_at (fun k hk hd => ?_) ops.size (by omega) fun k h1 h2 hd => ?_
    · obtain ⟨p, hp, rfl⟩ := hd
      cases hs : S k with
      | true => rfl
      | false => exact absurd hbr ((apA k hk hs).h1 p hp)
    · obtain ⟨p, hp, rfl⟩ := hd
      by_cases e : k = i
      · exact e ▸ hSn
      · cases hs : S k with
        | false => rfl
        | true => exact absurd hbr ((apB k (by omega) h2 hs).h2 p hp)
  have eT : Tf op tab S' T ops.size = setT (Tf op tab S T ops.size) (op i).dst (tab i).e.v :=
    Tf_put hS'i hS' hSn ops.size hi fun k d h1 h2 h3 h4 h5 => (apB k h1 h2 h3).dd d h4 h5
  have eH : Hf tab S' H ops.size = updH (Hf tab S H ops.size) (tab i).e.wr :=
    Hf_put hS'i hS' hSn ops.size hi fun k h1 h2 h3 p hp q hq => (apB k h1 h2 h3).hh p hp q hq
  have hUS : ∀ b, (b < nx ∨ ∃ k, k < ops.size ∧ S k = true ∧ b ∈ (tab k).e.nw) → (b < nx ∨ ∃ k, k < ops.size ∧ S' k = true ∧ b ∈ (tab k).e.nw) := fun b hb' => by
    rcases hb' with h1 | ⟨k, h1, h2, h3⟩
    · exact .inl h1
    · refine .inr ⟨k, h1, ?_, h3⟩
      rw [hS' k fun e => by rw [e, hSn] at h2; cases h2]; exact h2
  have wanted : Region.wanted (op i) (yielded ops a.tmps) = (tab i).on := by
    have g := h.hguard i hi
    unfold Region.wanted
    cases hg : (op i).guard with
    | none => rw [hg] at g; exact g.symm
    | some jw =>
      obtain ⟨j, want⟩ := jw
      rw [hg] at g
      obtain ⟨hj, hbj, d, r, hd, hy, hon⟩ := g
      have hop := h.hop j (by omega)
      have hl : d ∈ (op i).looksAt ops := by simp [Oper.looksAt, hg, hop, hd]
      have hr := yv_rep (ht.tm d) (by rw [look d hl]; exact hy)
      simp only
      rw [hon]
      congr 1
      unfold yielded
      have hdN := h.hdst j (by omega) d hd
      have hlt : d < a.tmps.size := by rw [ht.sz]; exact hdN
      rw [hop]
      simp only [Option.bind_some, hd, Array.getElem?_eq_getElem hlt]
      have hv : a.tmps.getD d undef = a.tmps[d] := by rw [Array.getD_eq_getD_getElem?, Array.getElem?_eq_getElem hlt]; rfl
      rw [hv] at hr
      rw [← hr]
      cases a.tmps[d] <;> rfl
  unfold Mode.opM
  rw [h.hop i hi]
  simp only
  rw [wanted]
  cases hon : (tab i).on with
  | false =>
    simp only [Bool.false_eq_true, if_false]
    have ho := h.hoff i hi hon
    refine next E _ w x ?_ ?_ hk (M.leRefl _ _) (Ext.refl _ _ _) (fun _ h => h) fun b hb' => hUS b (hU b hb')
    · rw [eT, ho]; exact ht.put _ (h.hdst i hi) (.tup [] #[] rfl (by simp))
    · rw [eH, ho]; exact hh
  | true =>
    simp only [if_true]
    refine h.hon i hi hon _ _ (fun y hx => ?_) heap fn E a w x K ht hh hk (fun b hbn hub => ?_) fun u E' w' x' hr hhi hk' hle hx hu => ?_
    · cases y with
      | tmp t => exact look t (by simp only [Oper.looksAt, List.mem_append, List.mem_filterMap]; exact .inl ⟨_, Array.mem_toList_iff.2 hx, rfl⟩)
      | _ => rfl
    · obtain ⟨h1, h2⟩ := h.hnw i hi b hbn
      rcases hU b hub with g | ⟨k, g1, g2, g3⟩
      · omega
      · rcases Nat.lt_trichotomy k i with g | g | g
        · exact h2 k g g3
        · rw [g, hSn] at g2; cases g2
        · exact (h.hnw k g1 b g3).2 i g hbn
    · have hu' : ∀ b, E.U b → E'.U b := fun b hb' => (hu b).2 (.inl hb')
      refine next E' _ w' x' ?_ (by rw [eH]; exact hhi) hk' hle hx hu' fun b hb' => ?_
      · rw [eT]; exact (ht.mono hx hu' hh.prfr).put _ (h.hdst i hi) hr
      · rcases (hu b).1 hb' with g | g
        · exact hUS b (hU b g)
        · exact .inr ⟨i, hi, hS'i, g⟩

theorem mem_ready {listed : Array Bool} {i : Nat} (h : Tab M ops N T H nx op tab bef) : i ∈ Region.ready .any ops listed ↔ i < ops.size ∧ listed.getD i true = false ∧ ∀ e ∈ (op i).after, Region.binds .any e = true → listed.getD e.on false = true := by
  unfold Region.ready
  rw [List.mem_filter, List.mem_range]
  constructor
  · rintro ⟨h1, h2⟩
    rw [h.hop i h1] at h2
    simp only [Option.map_some, Option.getD_some, Bool.and_eq_true, Array.all_eq_true', Bool.or_eq_true, Bool.not_eq_eq_eq_not, Bool.not_true] at h2
    refine ⟨h1, h2.1, fun e he hb => ?_⟩
    rcases h2.2 e he with g | g
    · rw [g] at hb; cases hb
    · exact g
  · rintro ⟨h1, h2, h3⟩
    refine ⟨h1, ?_⟩
    rw [h.hop i h1]
    simp only [Option.map_some, Option.getD_some, Bool.and_eq_true, Array.all_eq_true', Bool.or_eq_true, Bool.not_eq_eq_eq_not, Bool.not_true]
    refine ⟨h2, fun e he => ?_⟩
    cases hb : Region.binds .any e with
    | false => exact .inl rfl
    | true => exact .inr (h3 e he hb)

theorem count_set {l : Array Bool} {i : Nat} (hi : i < l.size) (h : l.getD i true = false) : (l.setIfInBounds i true).toList.count false + 1 = l.toList.count false := by
  have hg : l[i] = false := by simpa [Array.getD_eq_getD_getElem?, hi] using h
  have hl : i < l.toList.length := by simpa using hi
  rw [Array.toList_setIfInBounds, List.count_set (by simpa using hi)]
  have hc : 0 < l.toList.count false := List.count_pos_iff.2 (by rw [← hg]; simp)
  have e : (l.toList[i] == false) = true := by simp [hg]
  have e2 : ((true : Bool) == false) = false := rfl
  rw [if_pos e, e2, if_neg (by simp)]
  omega

/-- a region in whatever order -/
theorem Tab.any (h : Tab M ops N T H nx op tab bef) (hb : Before ops op bef) {Q : Exit → Act → World → M.X → Prop} {E₀ : Emb} {w₀ : World} {x₀ : M.X}
    (fin : ∀ E a w x, TInv N E (Tf op tab (fun _ => true) T ops.size) a w → HInv E (Hf tab (fun _ => true) H ops.size) w → M.ok x E w → M.le x₀ w₀.heap.size x → Ext E₀.U E₀ w₀ E w → (∀ b, E₀.U b → E.U b) →
      (∀ b, E.U b → b < nx ∨ ∃ k, k < ops.size ∧ b ∈ (tab k).e.nw) → Q .normal a w x) :
    ∀ (fuel : Nat) (listed : Array Bool) (S : Nat → Bool) (E : Emb) (a : Act) (w : World) (x : M.X), listed.size = ops.size → listed.toList.count false = fuel → (∀ i, i < ops.size → S i = listed.getD i true) → (∀ i, ops.size ≤ i → S i = true) →
      (∀ k, k < ops.size → S k = true → ∀ e ∈ (op k).after, Region.binds .any e = true → S e.on = true) →
      TInv N E (Tf op tab S T ops.size) a w → HInv E (Hf tab S H ops.size) w → M.ok x E w → M.le x₀ w₀.heap.size x → Ext E₀.U E₀ w₀ E w → (∀ b, E₀.U b → E.U b) → (∀ b, E.U b → b < nx ∨ ∃ k, k < ops.size ∧ S k = true ∧ b ∈ (tab k).e.nw) →
      M.anyM fn ops Q fuel listed a w x := by
  have done : ∀ (listed : Array Bool) (S : Nat → Bool) (E : Emb) (a : Act) (w : World) (x : M.X), listed.size = ops.size → (∀ i, i < ops.size → S i = listed.getD i true) → (∀ i, ops.size ≤ i → S i = true) →
      Region.ready .any ops listed = [] → TInv N E (Tf op tab S T ops.size) a w → HInv E (Hf tab S H ops.size) w → M.ok x E w → M.le x₀ w₀.heap.size x → Ext E₀.U E₀ w₀ E w → (∀ b, E₀.U b → E.U b) →
      (∀ b, E.U b → b < nx ∨ ∃ k, k < ops.size ∧ S k = true ∧ b ∈ (tab k).e.nw) → Q .normal a w x := by
    intro listed S E a w x hsz hSl hSo hr ht hh hk hle hx hu hU
    have all : ∀ i, S i = true := by
      intro i
      induction i using Nat.strongRecOn with
      | _ i ih =>
        rcases Nat.lt_or_ge i ops.size with hi | hi
        · cases hs : S i with
          | true => rfl
          | false =>
            have : i ∈ Region.ready .any ops listed := (mem_ready h).2 ⟨hi, (hSl i hi) ▸ hs, fun e he hbn => by
              have hlt := hb.edge i hi e he hbn
              have h1 := ih e.on hlt
              rw [hSl e.on (by omega)] at h1
              have hs' : e.on < listed.size := by omega
              simpa [Array.getD_eq_getD_getElem?, hs'] using h1⟩
            rw [hr] at this; cases this
        · exact hSo i hi
    have eS : S = fun _ => true := funext all
    subst eS
    exact fin E a w x ht hh hk hle hx hu fun b hb' => (hU b hb').imp id fun ⟨k, h1, _, h3⟩ => ⟨k, h1, h3⟩
  intro fuel
  induction fuel with
  | zero =>
    intro listed S E a w x hsz hc hSl hSo hcl ht hh hkx hle hx hu hU
    have hr : Region.ready .any ops listed = [] := by
      rw [List.eq_nil_iff_forall_not_mem]
      intro i hi
      obtain ⟨h1, h2, _⟩ := (mem_ready h).1 hi
      have := count_set (by omega) h2
      omega
    exact ⟨hr, done listed S E a w x hsz hSl hSo hr ht hh hkx hle hx hu hU⟩
  | succ fuel ih =>
    intro listed S E a w x hsz hc hSl hSo hcl ht hh hkx hle hx hu hU
    refine ⟨fun hr => done listed S E a w x hsz hSl hSo hr ht hh hkx hle hx hu hU, fun i hi => ?_⟩
    obtain ⟨h1, h2, h3⟩ := (mem_ready h).1 hi
    have hon : ∀ k, k < ops.size → listed.getD k false = true → S k = true := fun k hk hg => by
      have hs' : k < listed.size := by omega
      rw [hSl k hk]; simpa [Array.getD_eq_getD_getElem?, hs'] using hg
    have hrd : ∀ e ∈ (op i).after, Region.binds .any e = true → S e.on = true := fun e he hbn => hon _ (by have := hb.edge i h1 e he hbn; omega) (h3 e he hbn)
    refine h.step hb (S' := fun k => if k = i then true else S k) h1 ((hSl i h1).trans h2) hcl hrd (by simp) (fun k hk => by simp [hk]) ht hh hkx hU fun E' a' w' x' ht' hh' hk' hle' hx' hu' hU' => ?_
    refine ih _ _ E' a' w' x' (by simpa using hsz) (by have := count_set (by omega) h2; omega) (fun k hk => ?_) (fun k hk => ?_) (fun k hk hs e he hbn => ?_) ht' hh' hk' (M.leTrans hle hle' hx.sz) (hx.trans' hx' hu) (fun b hb' => hu' b (hu b hb')) hU'
    · by_cases e : k = i
      · subst e; simp [Array.getD_eq_getD_getElem?, hsz, hk]
      · rw [if_neg e, hSl k hk]; simp [Array.getD_eq_getD_getElem?, Array.getElem?_setIfInBounds_ne (Ne.symm e)]
    · by_cases e : k = i
      · simp [e]
      · simp [e, hSo k hk]
    · by_cases e1 : e.on = i
      · simp [e1]
      · simp only [e1, if_false]
        by_cases e2 : k = i
        · subst e2; exact hrd e he hbn
        · simp only [e2, if_false] at hs; exact hcl k hk hs e he hbn
end
end Go.Proofs.YtdjoodbidcncaaaGreatDoor.AW

/- Cells read and written. -/
namespace Go.Proofs.YtdjoodbidcncaaaGreatDoor.AW
open Go

theorem addr_add (b o n : Nat) : (⟨b, o, none⟩ : Addr).add n = ⟨b, o + n, none⟩ := by unfold Addr.add; split <;> simp_all
theorem addr_add' {p : Addr} (h : p.spot = none) (n : Nat) : p.add n = ⟨p.block, p.off + n, none⟩ := by
  obtain ⟨b, o, s⟩ := p; simp only at h; subst h; exact addr_add b o n

theorem Plain.cell {w : World} {r : Nat} {cells : Array Value} (h : Plain w r cells) (o : Nat) : w.cell? ⟨r, o, none⟩ = cells[o]? := by
  obtain ⟨ty, lo, hi, h1, _⟩ := h; simp [World.cell?, h1]
theorem Plain.frozen {w : World} {r : Nat} {cells : Array Value} (h : Plain w r cells) {o : Nat} (ho : o < cells.size) : w.frozen? ⟨r, o, none⟩ = false := by
  obtain ⟨ty, lo, hi, h1, h2⟩ := h
  have := h2 o ho
  simp only [World.frozen?, h1]
  simpa using this
theorem Plain.lt {w : World} {r : Nat} {cells : Array Value} (h : Plain w r cells) : r < w.heap.size := by
  obtain ⟨ty, lo, hi, h1, h2⟩ := h
  exact Nat.lt_of_not_le fun hle => by rw [Array.getElem?_eq_none hle] at h1; cases h1

theorem setCells_heap (b : Nat) : ∀ (vs : List Value) (o : Nat) (w : World) (cells : Array Value), Plain w b cells → o + vs.length ≤ cells.size →
    ∃ cells', Plain (w.setCells b o vs) b cells' ∧ cells'.size = cells.size ∧ (∀ x, (x < o ∨ o + vs.length ≤ x) → cells'.getD x undef = cells.getD x undef) ∧ (∀ j, j < vs.length → cells'.getD (o + j) undef = vs.getD j undef) ∧
      (w.setCells b o vs).heap.size = w.heap.size ∧ ∀ r, r ≠ b → (w.setCells b o vs).heap[r]? = w.heap[r]?
  | [], o, w, cells, h, _ => ⟨cells, h, rfl, fun _ _ => rfl, fun _ hj => by simp at hj, rfl, fun _ _ => rfl⟩
  | v :: l, o, w, cells, h, hl => by
    simp only [List.length_cons] at hl
    have ho : o < cells.size := by omega
    have h1 : Plain (w.setCell ⟨b, o, none⟩ v) b (cells.setIfInBounds o v) := by
      obtain ⟨ty, lo, hi, e1, e2⟩ := h
      refine ⟨ty, lo, hi, ?_, fun x hx => e2 x (by simpa using hx)⟩
      simp [World.setCell, Array.getElem?_modify, e1]
    obtain ⟨c', g1, g2, g3, g4, g5, g6⟩ := setCells_heap b l (o + 1) (w.setCell ⟨b, o, none⟩ v) _ h1 (by simp; omega)
    refine ⟨c', g1, by simpa using g2, fun x hx => ?_, fun j hj => ?_, by simpa [World.setCells] using g5, fun r hr => ?_⟩
    · simp only [List.length_cons] at hx
      rw [g3 x (by omega)]
      simp only [Array.getD_eq_getD_getElem?]
      rw [Array.getElem?_setIfInBounds_ne (by omega)]
    · cases j with
      | zero =>
        rw [g3 (o + 0) (by omega)]
        simp [Array.getD_eq_getD_getElem?, ho]
      | succ j =>
        have := g4 j (by simpa using hj)
        rw [show o + (j + 1) = o + 1 + j by omega, this]
        simp [List.getD]
    · rw [World.setCells, g6 r hr]
      simp [World.setCell, Array.getElem?_modify, Ne.symm hr]

theorem sameIO_setCells (b : Nat) : ∀ (vs : List Value) (o : Nat) (w : World), SameIO w (w.setCells b o vs)
  | [], _, _ => ⟨rfl, rfl, rfl⟩
  | v :: l, o, w => SameIO.trans (b := w.setCell ⟨b, o, none⟩ v) ⟨rfl, rfl, rfl⟩ (sameIO_setCells b l (o + 1) _)
theorem run_stores {P : Program} {w : World} {b o : Nat} {vs : List Value} {cells : Array Value} (h : Plain w b cells) (hl : o + vs.length ≤ cells.size) (h1 : ∀ v ∈ vs, v.oneCell' = true) :
    (storeCells ⟨b, o, none⟩ vs).run P w = .ok () (w.setCells b o vs) := by
  have := run_storeCells_cells (P := P) b o vs 0 w (fun j hj => by rw [h.cell]; simp; omega) (fun j hj => h.frozen (by omega)) h1
  simpa using this

def oneA : AV → Bool
  | .cv _ | .ptr .. | .own .. | .ifc .. | .fn .. | .mp _ | .ch _ => true
  | _ => false
theorem one_rep {w : World} {E : Emb} {x : AV} {v : Value} (h : RepA w E x v) (ho : oneA x = true) : v.oneCell' = true ∧ v.cells = #[v] := by
  cases h with
  | cv c v h =>
    cases h with
    | sc v h1 => cases v <;> first | exact ⟨rfl, rfl⟩ | (simp [oneV] at h1)
    | ro => exact ⟨rfl, rfl⟩
    | rp => exact ⟨rfl, rfl⟩
    | ifc => exact ⟨rfl, rfl⟩
  | _ => first | exact ⟨rfl, rfl⟩ | (simp [oneA] at ho)

/-- the cells of a value -/
def cellsA : AV → Option (List AV)
  | .agg cs => if cs.all oneA then some cs else none
  | x => if oneA x then some [x] else none
theorem cells_rep {w : World} {E : Emb} {x : AV} {v : Value} {cs : List AV} (h : RepA w E x v) (hc : cellsA x = some cs) :
    v.cells.size = cs.length ∧ (∀ u ∈ v.cells.toList, u.oneCell' = true) ∧ ∀ k y, cs[k]? = some y → RepA w E y (v.cells.getD k undef) := by
  have single : oneA x = true → some [x] = some cs → v.cells.size = cs.length ∧ (∀ u ∈ v.cells.toList, u.oneCell' = true) ∧ ∀ k y, cs[k]? = some y → RepA w E y (v.cells.getD k undef) := fun ho e => by
    obtain ⟨h1, h2⟩ := one_rep h ho
    cases e
    rw [h2]
    refine ⟨rfl, fun u hu => by simp at hu; exact hu ▸ h1, fun k y hy => ?_⟩
    cases k with
    | zero => simp at hy; subst hy; exact h
    | succ k => simp at hy
  cases x with
  | agg l =>
    simp only [cellsA] at hc
    split at hc
    · rename_i hall
      cases hc
      cases h with
      | agg _ vs hs hr =>
        refine ⟨hs, fun u hu => ?_, hr⟩
        obtain ⟨k, hk, rfl⟩ := List.mem_iff_getElem.1 hu
        have hk' : k < vs.size := by simpa [Value.cells] using hk
        have hkl : k < cs.length := by omega
        have := hr k cs[k] (by simp [hkl])
        have o1 := (one_rep this (List.all_eq_true.1 hall _ (by simp))).1
        simpa [Array.getD_eq_getD_getElem?, hk', Value.cells] using o1
    · cases hc
  | _ =>
    simp only [cellsA] at hc
    split at hc
    · rename_i ho; exact single ho hc
    · cases hc

/-- closed, at sight -/
def closeA : AV → Option CV
  | .cv c => some c
  | _ => none
def closeL : List AV → Option (List CV)
  | [] => some []
  | x :: l => match closeA x, closeL l with
    | some c, some r => some (c :: r)
    | _, _ => none
theorem closeL_spec : ∀ {l : List AV} {r : List CV}, closeL l = some r → l = r.map .cv
  | [], r, h => by simp [closeL] at h; subst h; rfl
  | x :: l, r, h => by
    simp only [closeL] at h
    split at h
    · rename_i c r' h1 h2
      cases h
      rw [closeL_spec h2]
      cases x <;> simp [closeA] at h1
      simp [h1]
    · cases h

/-- types, as the walk must know them -/
inductive TK where
  | int (k : IntKind) | bool | str | slice (e : Nat) | ptr (e : Nat) | strct (fs : List (Nat × Nat)) | arr (n e : Nat) | iface | map (k e : Nat) | other
structure TI where
  agg : Bool
  sz : Nat
  bytes : Nat
  kind : TK
  zero : List Value
def isAggD : TypeDesc → Bool
  | .struct _ | .array _ _ => true
  | _ => false
def kindOk (d : TypeDesc) : TK → Prop
  | .int k => d = .int k
  | .bool => d = .bool
  | .str => d = .string
  | .slice e => d = .slice e
  | .ptr e => d = .pointer e
  | .strct fs => ∃ F, d = .struct F ∧ F.toList.map (fun f => (f.offset, f.type)) = fs
  | .arr n e => d = .array n e
  | .iface => ∃ m, d = .interface m
  | .map k e => d = .map k e
  | .other => True
def zeroOk (i : TI) (z : Value) : Prop := match i.agg with
  | true => z = .agg i.zero.toArray
  | false => ∃ u, i.zero = [u] ∧ z = u ∧ oneV u = true
structure TIok (P : Program) (t : TypeId) (i : TI) : Prop where
  inf : ∃ inf, P.info? t = some inf ∧ inf.size = i.sz ∧ inf.bytes = i.bytes ∧ ∃ z, inf.zero = some z ∧ zeroOk i z
  und : ∃ d, P.underlying t = some d ∧ isAggD d = i.agg ∧ kindOk d i.kind
  len : i.zero.length = i.sz
  one : i.zero.all oneV = true
structure Ctx where
  P : Program
  ti : Nat → Option TI
  ok : ∀ t i, ti t = some i → TIok P t i
  M : Mode P
  sound : M.Sound

section
variable {P : Program} {t : TypeId} {i : TI}
theorem run_underlying {d : TypeDesc} (h : P.underlying t = some d) (w : World) : (underlying t).run P w = .ok d w := by simp [underlying, h]
theorem TIok.run_isAgg (h : TIok P t i) (w : World) : (isAgg t).run P w = .ok i.agg w := by
  obtain ⟨d, h1, h2, _⟩ := h.und
  have hr := run_underlying h1 w
  unfold isAgg
  rw [Sem.run_bind, hr]
  cases d <;> simp [isAggD] at h2 <;> simp [← h2]
theorem TIok.run_typeInfo (h : TIok P t i) (w : World) : ∃ inf, (typeInfo t).run P w = .ok inf w ∧ inf.size = i.sz ∧ inf.bytes = i.bytes ∧ P.info? t = some inf := by
  obtain ⟨inf, h1, h2, h3, _⟩ := h.inf
  exact ⟨inf, by simp [typeInfo, h1], h2, h3, h1⟩
theorem TIok.run_sizeOf (h : TIok P t i) (w : World) : (sizeOf t).run P w = .ok i.sz w := by
  obtain ⟨inf, h1, h2, _⟩ := h.run_typeInfo w
  simp [sizeOf, h1, h2]
theorem TIok.run_zero (h : TIok P t i) (w : World) : ∃ z, (zeroValue t).run P w = .ok z w ∧ zeroOk i z := by
  obtain ⟨inf, h1, h2, h3, z, h4, h5⟩ := h.inf
  exact ⟨z, by simp [zeroValue, typeInfo, h1, h4], h5⟩
end
theorem zero_cells {i : TI} {z : Value} (h : zeroOk i z) : z.cells = i.zero.toArray := by
  unfold zeroOk at h
  split at h
  · rw [h]; rfl
  · obtain ⟨u, h1, rfl, h3⟩ := h
    rw [h1]
    cases z <;> first | rfl | (simp [oneV] at h3)

/-- a variable read: its cells are known -/
theorem run_loadVar {P : Program} {t : TypeId} {i : TI} (h : TIok P t i) {w : World} {p : Addr} (hp : p.spot = none) (f : Nat → Value) (hc : ∀ k, k < i.sz → cellAt w p.block (p.off + k) = some (f k)) (h0 : i.agg = false → i.sz = 1) :
    (loadVar t p).run P w = .ok (if i.agg then .agg ((List.range i.sz).map f).toArray else f 0) w := by
  simp only [loadVar, Sem.run_bind, h.run_isAgg, Result.andThen_ok]
  cases ha : i.agg with
  | true =>
    have := run_loadCells (P := P) w p i.sz f (fun j hj => by rw [addr_add' hp]; exact hc j hj)
    simp [h.run_sizeOf, this]
  | false =>
    have := hc 0 (by rw [h0 ha]; omega)
    rw [Nat.add_zero] at this
    have e : w.cell? p = some (f 0) := by
      obtain ⟨b, o, s⟩ := p; simp only at hp; subst hp; exact this
    simp [e]
/-! the events of reading and writing cells -/
def CellEv (r : Nat) (e : Event) : Prop := ∃ ad wr, e = ⟨.cell ad, wr, false⟩ ∧ ad.block = r
theorem add_block (a : Addr) (n : Nat) : (a.add n).block = a.block := by unfold Addr.add; split <;> rfl
theorem ev_loadCellsFrom {P : Program} {a : Addr} : ∀ (n i : Nat) (acc : Array Value) (w : World) (es : Array Event), (∀ j, j < n → ∃ u, w.cell? (a.add (i + j)) = some u) →
    ∀ e ∈ (loadCellsFrom a i n acc).events P w es, e ∈ es ∨ CellEv a.block e
  | 0, _, _, _, _, _ => fun e h => .inl (by simpa [loadCellsFrom] using h)
  | n + 1, i, acc, w, es, hc => fun e h => by
    obtain ⟨u, hu⟩ := hc 0 (by omega)
    rw [Nat.add_zero] at hu
    have hr : (load (a.add i)).run P w = .ok u w := by simp [hu]
    simp only [loadCellsFrom, Sem.events_bind, hr, Result.evThen_ok] at h
    rcases ev_loadCellsFrom n (i + 1) (acc.push u) w _ (fun j hj => by have := hc (j + 1) (by omega); rwa [show i + (j + 1) = i + 1 + j by omega] at this) e h with h | h
    · rw [events_load, hu] at h
      rcases Array.mem_push.1 h with h | rfl
      · exact .inl h
      · exact .inr ⟨_, _, rfl, add_block a i⟩
    · exact .inr h
theorem ev_loadVar {P : Program} {t : TypeId} {i : TI} (h : TIok P t i) {w : World} {p : Addr} (hc : ∀ k, k < i.sz → ∃ u, w.cell? (p.add k) = some u) (h0 : i.agg = false → i.sz = 1) (es : Array Event) :
    ∀ e ∈ (loadVar t p).events P w es, e ∈ es ∨ CellEv p.block e := by
  intro e he
  simp only [loadVar, Sem.events_bind, h.run_isAgg, Result.evThen_ok, events_isAgg] at he
  cases ha : i.agg with
  | true =>
    rw [ha] at he
    simp only [if_true, Sem.events_bind, h.run_sizeOf, events_sizeOf, Result.evThen_ok] at he
    refine ev_loadCellsFrom (P := P) i.sz 0 #[] w es (fun j hj => by simpa using hc j hj) e ?_
    revert he
    cases (loadCells p i.sz).run P w <;> simp [loadCells]
  | false =>
    rw [ha] at he
    simp only [Bool.false_eq_true, if_false] at he
    obtain ⟨u, hu⟩ := hc 0 (by rw [h0 ha]; omega)
    have e0 : p.add 0 = p := by obtain ⟨b, o, s⟩ := p; cases s <;> simp [Addr.add]
    rw [e0] at hu
    rw [events_load, hu] at he
    rcases Array.mem_push.1 he with h | rfl
    · exact .inl h
    · exact .inr ⟨_, _, rfl, rfl⟩
theorem ev_stores {P : Program} {b o : Nat} : ∀ (vs : List Value) (i : Nat) (w : World) (cells : Array Value) (es : Array Event), Plain w b cells → o + i + vs.length ≤ cells.size → (∀ v ∈ vs, v.oneCell' = true) →
    ∀ e ∈ (storeCells ⟨b, o, none⟩ vs i).events P w es, e ∈ es ∨ CellEv b e
  | [], _, _, _, _, _, _, _ => fun e h => .inl (by simpa [storeCells] using h)
  | v :: l, i, w, cells, es, hp, hl, h1 => fun e h => by
    simp only [List.length_cons] at hl
    have hi : o + i < cells.size := by omega
    have hcell : w.cell? ⟨b, o + i, none⟩ = some cells[o + i] := by rw [hp.cell]; simp [hi]
    have hfro := hp.frozen hi
    have hst : (store ((⟨b, o, none⟩ : Addr).add i) v).run P w = .ok () (w.setCell ⟨b, o + i, none⟩ v) := by
      rw [addr_add, run_store P w _ v _ (h1 v (by simp)), hcell]; simp [hfro]
    have hev : (store ((⟨b, o, none⟩ : Addr).add i) v).events P w es = es.push ⟨.cell ⟨b, o + i, none⟩, true, false⟩ := by
      rw [addr_add, events_store P w es _ v _ (h1 v (by simp)), hcell]; simp [hfro]; rfl
    simp only [storeCells, Sem.events_bind, hst, hev, Result.evThen_ok] at h
    have hp1 : Plain (w.setCell ⟨b, o + i, none⟩ v) b (cells.setIfInBounds (o + i) v) := by
      obtain ⟨ty, lo, hi', e1, e2⟩ := hp
      exact ⟨ty, lo, hi', by simp [World.setCell, Array.getElem?_modify, e1], fun x hx => e2 x (by simpa using hx)⟩
    rcases ev_stores l (i + 1) _ _ _ hp1 (by simp; omega) (fun u hu => h1 u (by simp [hu])) e h with h | h
    · rcases Array.mem_push.1 h with h | rfl
      · exact .inl h
      · exact .inr ⟨_, _, rfl, rfl⟩
    · exact .inr h
theorem EvOk.own {E : Emb} {w w' : World} {es : Array Event} {b : Nat} (hU : E.U b) (hg : ¬ E.gh b) (hl : E.blk b < w'.heap.size) (h : ∀ e ∈ es, CellEv (E.blk b) e) : EvOk E w w' es := fun e he => by
  obtain ⟨ad, wr, rfl, h1⟩ := h e he
  exact .inr ⟨ad, wr, rfl, .inr (.inl ⟨b, hU, hg, h1⟩), h1 ▸ hl⟩
theorem EvOk.ro {E : Emb} {w w' : World} {es : Array Event} {r : Nat} (hp : E.pr r) (hl : r < w'.heap.size) (h : ∀ e ∈ es, CellEv r e) : EvOk E w w' es := fun e he => by
  obtain ⟨ad, wr, rfl, h1⟩ := h e he
  exact .inr ⟨ad, wr, rfl, .inl (h1 ▸ hp), h1 ▸ hl⟩
theorem evThen_last {α : Type} (r : Result α) (es : Array Event) : (r.evThen es fun _ _ es' => es') = es := by cases r <;> rfl
theorem mem_bind {α β : Type} {P : Program} {w : World} {s : Sem α} {f : α → Sem β} {e : Event} (h : e ∈ (s >>= f).events P w #[]) : e ∈ s.events P w #[] ∨ ∃ a w', s.run P w = .ok a w' ∧ e ∈ (f a).events P w' #[] := by
  rw [Sem.events_bind] at h
  cases hr : s.run P w with
  | ok a w' =>
    rw [hr, Result.evThen_ok, Sem.events_acc] at h
    exact (Array.mem_append.1 h).imp id fun h => ⟨a, w', rfl, h⟩
  | halt x w' => rw [hr, Result.evThen_halt] at h; exact .inl h
theorem mem_seq {α β : Type} {P : Program} {w w' : World} {s : Sem α} {f : α → Sem β} {a : α} {e : Event} (h : e ∈ (s >>= f).events P w #[]) (hr : s.run P w = .ok a w') : e ∈ s.events P w #[] ∨ e ∈ (f a).events P w' #[] := by
  rcases mem_bind h with h | ⟨_, _, h1, h2⟩
  · exact .inl h
  · rw [hr] at h1; cases h1; exact .inr h2
theorem cell_lt {w : World} {r o : Nat} {v : Value} (h : w.cell? ⟨r, o, none⟩ = some v) : r < w.heap.size := Nat.lt_of_not_le fun hle => by
  simp [World.cell?, Array.getElem?_eq_none hle] at h
theorem EvOk.union {E : Emb} {w w' : World} {es : Array Event} (h : ∀ e ∈ es, EvOk E w w' #[e]) : EvOk E w w' es := fun e he => h e he e (by simp)
theorem EvOk.one {E : Emb} {w w' : World} {es : Array Event} (h : EvOk E w w' es) {e : Event} (he : e ∈ es) : EvOk E w w' #[e] := fun x hx => by simp at hx; exact hx ▸ h e he
theorem EvOk.grow {E : Emb} {w w₁ w' : World} {es : Array Event} (h : EvOk E w₁ w₁ es) (h1 : w₁.heap.size = w.heap.size) (h2 : w.heap.size ≤ w'.heap.size) : EvOk E w w' es := fun e he => by
  rcases h e he with (h | ⟨r, wr, sy, rfl, g1⟩) | ⟨ad, wr, rfl, g1, g2⟩
  · exact .inl (.inl h)
  · exact .inl (.inr ⟨r, wr, sy, rfl, by omega⟩)
  · exact .inr ⟨ad, wr, rfl, g1.imp id (.imp id fun g => h1 ▸ g), by omega⟩
/-! operations that touch no cell -/
def Qt {α : Type} (s : Sem α) : Prop := ∀ P w, ∀ e ∈ s.events P w #[], e = ⟨.mark .noRoom, false, true⟩
section
variable {α β : Type}
theorem Qt.of {s : Sem α} (h : ∀ P w, s.events P w #[] = #[]) : Qt s := fun P w e he => by rw [h] at he; simp at he
theorem Qt.bind {s : Sem α} {f : α → Sem β} (h : Qt s) (hf : ∀ a, Qt (f a)) : Qt (s >>= f) := fun P w e he => by
  rw [Sem.events_bind] at he
  cases hr : s.run P w with
  | ok a w' =>
    rw [hr, Result.evThen_ok, Sem.events_acc] at he
    rcases Array.mem_append.1 he with h1 | h1
    · exact h P w e h1
    · exact hf a P w' e h1
  | halt x w' => rw [hr, Result.evThen_halt] at he; exact h P w e he
theorem Qt.map {s : Sem α} {f : α → β} (h : Qt s) : Qt (f <$> s) := fun P w e he => by rw [Sem.events_map] at he; exact h P w e he
theorem Qt.pure {a : α} : Qt (Pure.pure a : Sem α) := .of fun _ _ => rfl
theorem Qt.pure' {a : α} : Qt (Sem.pure a : Sem α) := .of fun _ _ => rfl
theorem Qt.stuck {s : String} : Qt (Go.stuck s : Sem α) := .of fun _ _ => rfl
theorem Qt.unsup {u : Unsupported} : Qt (Go.unsupported u : Sem α) := .of fun _ _ => rfl
theorem Qt.panic {v : Value} : Qt (goPanic v : Sem α) := .of fun _ _ => rfl
theorem Qt.ite {c : Prop} [Decidable c] {x y : Sem α} (h : Qt x) (h' : Qt y) : Qt (if c then x else y) := by split <;> assumption
theorem Qt.mapM {f : α → Sem β} (h : ∀ a, Qt (f a)) : ∀ (l : List α), Qt (l.mapM f)
  | [] => .of fun _ _ => rfl
  | x :: l => by rw [List.mapM_cons]; exact .bind (h x) fun _ => .bind (Qt.mapM h l) fun _ => .pure
theorem Qt.mapMA {f : α → Sem β} (h : ∀ a, Qt (f a)) (l : Array α) : Qt (l.mapM f) := by
  rw [Array.mapM_eq_mapM_toList]; exact .map (Qt.mapM h _)
theorem Qt.ev {s : Sem α} (h : Qt s) {E : Emb} {w w' w'' : World} {P : Program} : EvOk E w w' (s.events P w'' #[]) := fun e he => .inl (.inl (.inl (h P w'' e he)))
end
end Go.Proofs.YtdjoodbidcncaaaGreatDoor.AW

/- Operations that touch no cell. -/
namespace Go.Proofs.YtdjoodbidcncaaaGreatDoor.AW
open Go

theorem qt_under {t : TypeId} : Qt (underlying t) := .of fun _ _ => by simp
theorem qt_size {t : TypeId} : Qt (sizeOf t) := .of fun _ _ => by simp
theorem qt_info {t : TypeId} : Qt (typeInfo t) := .of fun _ _ => by simp
theorem qt_zero {t : TypeId} : Qt (zeroValue t) := .of fun _ _ => by simp
theorem qt_choose {q : Question} : Qt (choose q) := .of fun _ _ => by simp
theorem qt_prog  : Qt program := .of fun _ _ => by simp
theorem qt_shape {r : Nat} : Qt (shape r) := .of fun _ _ => by simp
theorem qt_frozen {a : Addr} : Qt (frozen a) := .of fun _ _ => by simp
theorem qt_new {o : Obj} : Qt (newObj o) := .of fun _ _ => by simp
theorem qt_room {n : Nat} : Qt (askRoom n) := fun P w e he => by
  unfold askRoom at he
  split at he
  · simp at he; exact he
  · simp at he
theorem qt_elemOf {t : TypeId} : Qt (elemOf t) := by
  unfold elemOf
  (repeat' (with_reducible first | assumption | exact Qt.pure | exact Qt.pure' | exact Qt.stuck | exact Qt.unsup | exact Qt.panic | exact qt_under | exact qt_size | exact qt_info | exact qt_zero | exact qt_choose | exact qt_prog | exact qt_shape | exact qt_frozen | exact qt_new | exact qt_room | refine Qt.bind ?_ fun _ => ?_ | refine Qt.map ?_ | refine Qt.ite ?_ ?_ | refine Qt.mapMA (fun _ => ?_) _ | split | dsimp only))
theorem qt_newRow {t : TypeId} {cs : Array Value} : Qt (newRow t cs) := by
  unfold newRow
  (repeat' (with_reducible first | assumption | exact Qt.pure | exact Qt.pure' | exact Qt.stuck | exact Qt.unsup | exact Qt.panic | exact qt_under | exact qt_size | exact qt_info | exact qt_zero | exact qt_choose | exact qt_prog | exact qt_shape | exact qt_frozen | exact qt_new | exact qt_room | exact qt_elemOf | refine Qt.bind ?_ fun _ => ?_ | refine Qt.map ?_ | refine Qt.ite ?_ ?_ | refine Qt.mapMA (fun _ => ?_) _ | split | dsimp only))
theorem qt_newVar {t : TypeId} {v : Value} : Qt (newVar t v) := by
  unfold newVar
  (repeat' (with_reducible first | assumption | exact Qt.pure | exact Qt.pure' | exact Qt.stuck | exact Qt.unsup | exact Qt.panic | exact qt_under | exact qt_size | exact qt_info | exact qt_zero | exact qt_choose | exact qt_prog | exact qt_shape | exact qt_frozen | exact qt_new | exact qt_room | exact qt_elemOf | exact qt_newRow | refine Qt.bind ?_ fun _ => ?_ | refine Qt.map ?_ | refine Qt.ite ?_ ?_ | refine Qt.mapMA (fun _ => ?_) _ | split | dsimp only))
theorem qt_rp {α : Type} {e : RuntimeError} : Qt (runtimePanic e : Sem α) := by
  unfold runtimePanic
  (repeat' (with_reducible first | assumption | exact Qt.pure | exact Qt.pure' | exact Qt.stuck | exact Qt.unsup | exact Qt.panic | exact qt_under | exact qt_size | exact qt_info | exact qt_zero | exact qt_choose | exact qt_prog | exact qt_shape | exact qt_frozen | exact qt_new | exact qt_room | exact qt_elemOf | exact qt_newRow | exact qt_newVar | refine Qt.bind ?_ fun _ => ?_ | refine Qt.map ?_ | refine Qt.ite ?_ ?_ | refine Qt.mapMA (fun _ => ?_) _ | split | dsimp only))
theorem qt_bp {α : Type} {k : IntKind} {x y : Int} {c : BoundsCode} : Qt (boundsPanic k x y c : Sem α) := by
  unfold boundsPanic
  (repeat' (with_reducible first | assumption | exact Qt.pure | exact Qt.pure' | exact Qt.stuck | exact Qt.unsup | exact Qt.panic | exact qt_under | exact qt_size | exact qt_info | exact qt_zero | exact qt_choose | exact qt_prog | exact qt_shape | exact qt_frozen | exact qt_new | exact qt_room | exact qt_elemOf | exact qt_newRow | exact qt_newVar | exact qt_rp | refine Qt.bind ?_ fun _ => ?_ | refine Qt.map ?_ | refine Qt.ite ?_ ?_ | refine Qt.mapMA (fun _ => ?_) _ | split | dsimp only))
theorem qt_sure {v : Value} : Qt (Instr.sureAddr v) := by
  unfold Instr.sureAddr
  (repeat' (with_reducible first | assumption | exact Qt.pure | exact Qt.pure' | exact Qt.stuck | exact Qt.unsup | exact Qt.panic | exact qt_under | exact qt_size | exact qt_info | exact qt_zero | exact qt_choose | exact qt_prog | exact qt_shape | exact qt_frozen | exact qt_new | exact qt_room | exact qt_elemOf | exact qt_newRow | exact qt_newVar | exact qt_rp | exact qt_bp | refine Qt.bind ?_ fun _ => ?_ | refine Qt.map ?_ | refine Qt.ite ?_ ?_ | refine Qt.mapMA (fun _ => ?_) _ | split | dsimp only))
theorem qt_intOf {v : Value} : Qt (asIntOf v) := by
  unfold asIntOf
  (repeat' (with_reducible first | assumption | exact Qt.pure | exact Qt.pure' | exact Qt.stuck | exact Qt.unsup | exact Qt.panic | exact qt_under | exact qt_size | exact qt_info | exact qt_zero | exact qt_choose | exact qt_prog | exact qt_shape | exact qt_frozen | exact qt_new | exact qt_room | exact qt_elemOf | exact qt_newRow | exact qt_newVar | exact qt_rp | exact qt_bp | exact qt_sure | refine Qt.bind ?_ fun _ => ?_ | refine Qt.map ?_ | refine Qt.ite ?_ ?_ | refine Qt.mapMA (fun _ => ?_) _ | split | dsimp only))
theorem qt_int {v : Value} : Qt (asInt v) := by
  unfold asInt
  (repeat' (with_reducible first | assumption | exact Qt.pure | exact Qt.pure' | exact Qt.stuck | exact Qt.unsup | exact Qt.panic | exact qt_under | exact qt_size | exact qt_info | exact qt_zero | exact qt_choose | exact qt_prog | exact qt_shape | exact qt_frozen | exact qt_new | exact qt_room | exact qt_elemOf | exact qt_newRow | exact qt_newVar | exact qt_rp | exact qt_bp | exact qt_sure | exact qt_intOf | refine Qt.bind ?_ fun _ => ?_ | refine Qt.map ?_ | refine Qt.ite ?_ ?_ | refine Qt.mapMA (fun _ => ?_) _ | split | dsimp only))
theorem qt_bool {v : Value} : Qt (asBool v) := by
  unfold asBool
  (repeat' (with_reducible first | assumption | exact Qt.pure | exact Qt.pure' | exact Qt.stuck | exact Qt.unsup | exact Qt.panic | exact qt_under | exact qt_size | exact qt_info | exact qt_zero | exact qt_choose | exact qt_prog | exact qt_shape | exact qt_frozen | exact qt_new | exact qt_room | exact qt_elemOf | exact qt_newRow | exact qt_newVar | exact qt_rp | exact qt_bp | exact qt_sure | exact qt_intOf | exact qt_int | refine Qt.bind ?_ fun _ => ?_ | refine Qt.map ?_ | refine Qt.ite ?_ ?_ | refine Qt.mapMA (fun _ => ?_) _ | split | dsimp only))
theorem qt_agg {v : Value} : Qt (asAgg v) := by
  unfold asAgg
  (repeat' (with_reducible first | assumption | exact Qt.pure | exact Qt.pure' | exact Qt.stuck | exact Qt.unsup | exact Qt.panic | exact qt_under | exact qt_size | exact qt_info | exact qt_zero | exact qt_choose | exact qt_prog | exact qt_shape | exact qt_frozen | exact qt_new | exact qt_room | exact qt_elemOf | exact qt_newRow | exact qt_newVar | exact qt_rp | exact qt_bp | exact qt_sure | exact qt_intOf | exact qt_int | exact qt_bool | refine Qt.bind ?_ fun _ => ?_ | refine Qt.map ?_ | refine Qt.ite ?_ ?_ | refine Qt.mapMA (fun _ => ?_) _ | split | dsimp only))
theorem qt_addr {v : Value} : Qt (asAddr v) := by
  unfold asAddr
  (repeat' (with_reducible first | assumption | exact Qt.pure | exact Qt.pure' | exact Qt.stuck | exact Qt.unsup | exact Qt.panic | exact qt_under | exact qt_size | exact qt_info | exact qt_zero | exact qt_choose | exact qt_prog | exact qt_shape | exact qt_frozen | exact qt_new | exact qt_room | exact qt_elemOf | exact qt_newRow | exact qt_newVar | exact qt_rp | exact qt_bp | exact qt_sure | exact qt_intOf | exact qt_int | exact qt_bool | exact qt_agg | refine Qt.bind ?_ fun _ => ?_ | refine Qt.map ?_ | refine Qt.ite ?_ ?_ | refine Qt.mapMA (fun _ => ?_) _ | split | dsimp only))
theorem qt_str {v : Value} : Qt (asString v) := by
  unfold asString
  (repeat' (with_reducible first | assumption | exact Qt.pure | exact Qt.pure' | exact Qt.stuck | exact Qt.unsup | exact Qt.panic | exact qt_under | exact qt_size | exact qt_info | exact qt_zero | exact qt_choose | exact qt_prog | exact qt_shape | exact qt_frozen | exact qt_new | exact qt_room | exact qt_elemOf | exact qt_newRow | exact qt_newVar | exact qt_rp | exact qt_bp | exact qt_sure | exact qt_intOf | exact qt_int | exact qt_bool | exact qt_agg | exact qt_addr | refine Qt.bind ?_ fun _ => ?_ | refine Qt.map ?_ | refine Qt.ite ?_ ?_ | refine Qt.mapMA (fun _ => ?_) _ | split | dsimp only))
theorem qt_isAgg {t : TypeId} : Qt (isAgg t) := .of fun _ _ => by simp
theorem qt_part {t : TypeId} {cs : Array Value} {n : Nat} : Qt (part t cs n) := by
  unfold part
  (repeat' (with_reducible first | assumption | exact Qt.pure | exact Qt.pure' | exact Qt.stuck | exact Qt.unsup | exact Qt.panic | exact qt_under | exact qt_size | exact qt_info | exact qt_zero | exact qt_choose | exact qt_prog | exact qt_shape | exact qt_frozen | exact qt_new | exact qt_room | exact qt_elemOf | exact qt_newRow | exact qt_newVar | exact qt_rp | exact qt_bp | exact qt_sure | exact qt_intOf | exact qt_int | exact qt_bool | exact qt_agg | exact qt_addr | exact qt_str | exact qt_isAgg | refine Qt.bind ?_ fun _ => ?_ | refine Qt.map ?_ | refine Qt.ite ?_ ?_ | refine Qt.mapMA (fun _ => ?_) _ | split | dsimp only))
theorem qt_bound {x : Value} {n : Nat} {c : BoundsCode} : Qt (Instr.sliceBound x n c) := by
  unfold Instr.sliceBound
  (repeat' (with_reducible first | assumption | exact Qt.pure | exact Qt.pure' | exact Qt.stuck | exact Qt.unsup | exact Qt.panic | exact qt_under | exact qt_size | exact qt_info | exact qt_zero | exact qt_choose | exact qt_prog | exact qt_shape | exact qt_frozen | exact qt_new | exact qt_room | exact qt_elemOf | exact qt_newRow | exact qt_newVar | exact qt_rp | exact qt_bp | exact qt_sure | exact qt_intOf | exact qt_int | exact qt_bool | exact qt_agg | exact qt_addr | exact qt_str | exact qt_isAgg | exact qt_part | refine Qt.bind ?_ fun _ => ?_ | refine Qt.map ?_ | refine Qt.ite ?_ ?_ | refine Qt.mapMA (fun _ => ?_) _ | split | dsimp only))
theorem qt_bounds {q : Bool} {n m : Nat} {a b c : Option Value} : Qt (Instr.sliceBounds q n m a b c) := by
  unfold Instr.sliceBounds
  (repeat' (with_reducible first | assumption | exact Qt.pure | exact Qt.pure' | exact Qt.stuck | exact Qt.unsup | exact Qt.panic | exact qt_under | exact qt_size | exact qt_info | exact qt_zero | exact qt_choose | exact qt_prog | exact qt_shape | exact qt_frozen | exact qt_new | exact qt_room | exact qt_elemOf | exact qt_newRow | exact qt_newVar | exact qt_rp | exact qt_bp | exact qt_sure | exact qt_intOf | exact qt_int | exact qt_bool | exact qt_agg | exact qt_addr | exact qt_str | exact qt_isAgg | exact qt_part | exact qt_bound | refine Qt.bind ?_ fun _ => ?_ | refine Qt.map ?_ | refine Qt.ite ?_ ?_ | refine Qt.mapMA (fun _ => ?_) _ | split | dsimp only))
theorem qt_field {t : TypeId} {x : Value} {n : Nat} : Qt (Instr.field t x n) := by
  unfold Instr.field
  (repeat' (with_reducible first | assumption | exact Qt.pure | exact Qt.pure' | exact Qt.stuck | exact Qt.unsup | exact Qt.panic | exact qt_under | exact qt_size | exact qt_info | exact qt_zero | exact qt_choose | exact qt_prog | exact qt_shape | exact qt_frozen | exact qt_new | exact qt_room | exact qt_elemOf | exact qt_newRow | exact qt_newVar | exact qt_rp | exact qt_bp | exact qt_sure | exact qt_intOf | exact qt_int | exact qt_bool | exact qt_agg | exact qt_addr | exact qt_str | exact qt_isAgg | exact qt_part | exact qt_bound | exact qt_bounds | refine Qt.bind ?_ fun _ => ?_ | refine Qt.map ?_ | refine Qt.ite ?_ ?_ | refine Qt.mapMA (fun _ => ?_) _ | split | dsimp only))
theorem qt_indexAt {t : TypeId} {x i : Value} : Qt (Instr.indexAt t x i) := by
  unfold Instr.indexAt
  (repeat' (with_reducible first | assumption | exact Qt.pure | exact Qt.pure' | exact Qt.stuck | exact Qt.unsup | exact Qt.panic | exact qt_under | exact qt_size | exact qt_info | exact qt_zero | exact qt_choose | exact qt_prog | exact qt_shape | exact qt_frozen | exact qt_new | exact qt_room | exact qt_elemOf | exact qt_newRow | exact qt_newVar | exact qt_rp | exact qt_bp | exact qt_sure | exact qt_intOf | exact qt_int | exact qt_bool | exact qt_agg | exact qt_addr | exact qt_str | exact qt_isAgg | exact qt_part | exact qt_bound | exact qt_bounds | exact qt_field | refine Qt.bind ?_ fun _ => ?_ | refine Qt.map ?_ | refine Qt.ite ?_ ?_ | refine Qt.mapMA (fun _ => ?_) _ | split | dsimp only))
theorem qt_index {t : TypeId} {x i : Value} : Qt (Instr.index t x i) := by
  unfold Instr.index
  (repeat' (with_reducible first | assumption | exact Qt.pure | exact Qt.pure' | exact Qt.stuck | exact Qt.unsup | exact Qt.panic | exact qt_under | exact qt_size | exact qt_info | exact qt_zero | exact qt_choose | exact qt_prog | exact qt_shape | exact qt_frozen | exact qt_new | exact qt_room | exact qt_elemOf | exact qt_newRow | exact qt_newVar | exact qt_rp | exact qt_bp | exact qt_sure | exact qt_intOf | exact qt_int | exact qt_bool | exact qt_agg | exact qt_addr | exact qt_str | exact qt_isAgg | exact qt_part | exact qt_bound | exact qt_bounds | exact qt_field | exact qt_indexAt | refine Qt.bind ?_ fun _ => ?_ | refine Qt.map ?_ | refine Qt.ite ?_ ?_ | refine Qt.mapMA (fun _ => ?_) _ | split | dsimp only))
theorem qt_slice {t : TypeId} {x : Value} {a b c : Option Value} : Qt (Instr.slice t x a b c) := by
  unfold Instr.slice
  (repeat' (with_reducible first | assumption | exact Qt.pure | exact Qt.pure' | exact Qt.stuck | exact Qt.unsup | exact Qt.panic | exact qt_under | exact qt_size | exact qt_info | exact qt_zero | exact qt_choose | exact qt_prog | exact qt_shape | exact qt_frozen | exact qt_new | exact qt_room | exact qt_elemOf | exact qt_newRow | exact qt_newVar | exact qt_rp | exact qt_bp | exact qt_sure | exact qt_intOf | exact qt_int | exact qt_bool | exact qt_agg | exact qt_addr | exact qt_str | exact qt_isAgg | exact qt_part | exact qt_bound | exact qt_bounds | exact qt_field | exact qt_indexAt | exact qt_index | refine Qt.bind ?_ fun _ => ?_ | refine Qt.map ?_ | refine Qt.ite ?_ ?_ | refine Qt.mapMA (fun _ => ?_) _ | split | dsimp only))
theorem qt_sliceAt {t : TypeId} {x : Value} {a b c : Option Value} : Qt (Instr.sliceAt t x a b c) := by
  unfold Instr.sliceAt
  (repeat' (with_reducible first | assumption | exact Qt.pure | exact Qt.pure' | exact Qt.stuck | exact Qt.unsup | exact Qt.panic | exact qt_under | exact qt_size | exact qt_info | exact qt_zero | exact qt_choose | exact qt_prog | exact qt_shape | exact qt_frozen | exact qt_new | exact qt_room | exact qt_elemOf | exact qt_newRow | exact qt_newVar | exact qt_rp | exact qt_bp | exact qt_sure | exact qt_intOf | exact qt_int | exact qt_bool | exact qt_agg | exact qt_addr | exact qt_str | exact qt_isAgg | exact qt_part | exact qt_bound | exact qt_bounds | exact qt_field | exact qt_indexAt | exact qt_index | exact qt_slice | refine Qt.bind ?_ fun _ => ?_ | refine Qt.map ?_ | refine Qt.ite ?_ ?_ | refine Qt.mapMA (fun _ => ?_) _ | split | dsimp only))
theorem qt_build {t : TypeId} {ps : Array (Nat × Value)} : Qt (Instr.build t ps) := by
  unfold Instr.build
  (repeat' (with_reducible first | assumption | exact Qt.pure | exact Qt.pure' | exact Qt.stuck | exact Qt.unsup | exact Qt.panic | exact qt_under | exact qt_size | exact qt_info | exact qt_zero | exact qt_choose | exact qt_prog | exact qt_shape | exact qt_frozen | exact qt_new | exact qt_room | exact qt_elemOf | exact qt_newRow | exact qt_newVar | exact qt_rp | exact qt_bp | exact qt_sure | exact qt_intOf | exact qt_int | exact qt_bool | exact qt_agg | exact qt_addr | exact qt_str | exact qt_isAgg | exact qt_part | exact qt_bound | exact qt_bounds | exact qt_field | exact qt_indexAt | exact qt_index | exact qt_slice | exact qt_sliceAt | refine Qt.bind ?_ fun _ => ?_ | refine Qt.map ?_ | refine Qt.ite ?_ ?_ | refine Qt.mapMA (fun _ => ?_) _ | split | dsimp only))
theorem qt_buildS {t : TypeId} {n : Nat} {ps : Array (Nat × Value)} : Qt (Instr.buildSlice t n ps) := by
  unfold Instr.buildSlice
  (repeat' (with_reducible first | assumption | exact Qt.pure | exact Qt.pure' | exact Qt.stuck | exact Qt.unsup | exact Qt.panic | exact qt_under | exact qt_size | exact qt_info | exact qt_zero | exact qt_choose | exact qt_prog | exact qt_shape | exact qt_frozen | exact qt_new | exact qt_room | exact qt_elemOf | exact qt_newRow | exact qt_newVar | exact qt_rp | exact qt_bp | exact qt_sure | exact qt_intOf | exact qt_int | exact qt_bool | exact qt_agg | exact qt_addr | exact qt_str | exact qt_isAgg | exact qt_part | exact qt_bound | exact qt_bounds | exact qt_field | exact qt_indexAt | exact qt_index | exact qt_slice | exact qt_sliceAt | exact qt_build | refine Qt.bind ?_ fun _ => ?_ | refine Qt.map ?_ | refine Qt.ite ?_ ?_ | refine Qt.mapMA (fun _ => ?_) _ | split | dsimp only))
theorem qt_makeS {t : TypeId} {a b : Value} : Qt (Instr.makeSlice t a b) := by
  unfold Instr.makeSlice
  (repeat' (with_reducible first | assumption | exact Qt.pure | exact Qt.pure' | exact Qt.stuck | exact Qt.unsup | exact Qt.panic | exact qt_under | exact qt_size | exact qt_info | exact qt_zero | exact qt_choose | exact qt_prog | exact qt_shape | exact qt_frozen | exact qt_new | exact qt_room | exact qt_elemOf | exact qt_newRow | exact qt_newVar | exact qt_rp | exact qt_bp | exact qt_sure | exact qt_intOf | exact qt_int | exact qt_bool | exact qt_agg | exact qt_addr | exact qt_str | exact qt_isAgg | exact qt_part | exact qt_bound | exact qt_bounds | exact qt_field | exact qt_indexAt | exact qt_index | exact qt_slice | exact qt_sliceAt | exact qt_build | exact qt_buildS | refine Qt.bind ?_ fun _ => ?_ | refine Qt.map ?_ | refine Qt.ite ?_ ?_ | refine Qt.mapMA (fun _ => ?_) _ | split | dsimp only))
end Go.Proofs.YtdjoodbidcncaaaGreatDoor.AW
