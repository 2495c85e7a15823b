/- An operation's effect on an abstract state; a region whose operations come in whatever order. -/
import Derived.Test.YtnffoddeppimkaaAwA
import Derived.Orders
namespace Go.Proofs.Ytnffoddeppimkaa.AW
open Go

/-- two ways -/
structure Br (q : Bool) (A B : Prop) : Prop where
  t : q = true → A
  f : q = false → B
theorem Br.yes {q : Bool} {A B : Prop} (h : q = true) (a : A) : Br q A B := ⟨fun _ => a, (fun e => by rw [h] at e; cases e)⟩
theorem Br.no {q : Bool} {A B : Prop} (h : q = false) (b : B) : Br q A B := ⟨(fun e => by rw [h] at e; cases e), fun _ => b⟩
/-- a condition that is decided at sight -/
def ck (b : Bool) (p : Prop) : Prop := match b with
  | true => p
  | false => False
theorem ck_out {b : Bool} {p : Prop} (h : ck b p) : b = true ∧ p := by cases b with | true => exact ⟨rfl, h⟩ | false => exact h.elim
theorem ck_in {b : Bool} {p : Prop} (h : b = true ∧ p) : ck b p := by obtain ⟨rfl, h⟩ := h; exact h

def ofOne (v : Value) : AV := if oneV v then .cv (.sc v) else .any
def ofVal : Value → AV
  | .agg cs => .agg (cs.toList.map ofOne)
  | .tuple _ => .any
  | v => .cv (.sc v)
theorem rep_ofOne (w : World) (E : Emb) (v : Value) : RepA w E (ofOne v) v := by
  unfold ofOne
  split
  · exact .cv _ _ (.sc _ (by assumption))
  · exact .any _

def ev (T : Nat → AV) : Operand → AV
  | .tmp t => T t
  | .const v => ofVal v
  | .global _ => .any
  | .func f => .cv (.sc (.func (.func f) #[] #[]))

theorem rep_ofVal (w : World) (E : Emb) (v : Value) : RepA w E (ofVal v) v := by
  cases v with
  | agg cs =>
    refine .agg _ _ (by simp) fun k x hx => ?_
    simp only [List.getElem?_map, Option.map_eq_some_iff] at hx
    obtain ⟨c, h1, rfl⟩ := hx
    have h1 : cs[k]? = some c := by simpa using h1
    rw [Array.getD_eq_getD_getElem?, h1]
    exact rep_ofOne w E c
  | tuple _ => exact .any _
  | _ => exact .cv _ _ (.sc _ rfl)

theorem rep_ev {N : Nat} {E : Emb} {T : Nat → AV} {a : Act} {w : World} (h : TInv N E T a w) (x : Operand) : RepA w E (ev T x) (a.eval x) := by
  cases x with
  | tmp t => exact h.tm t
  | const v => exact rep_ofVal w E v
  | global g => exact .any _
  | func f => exact .cv _ _ (.sc _ rfl)

structure Eff where
  v : AV
  wr : List (Nat × Option Block)
  nw : List Nat
  rd : List Nat

def updH (H : Nat → Option Block) : List (Nat × Option Block) → Nat → Option Block
  | [] => H
  | p :: l => updH (setH H p.1 p.2) l

def OpAt (P : Program) (o : Oper) (N : Nat) (T : Nat → AV) (H : Nat → Option Block) (e : Eff) : Prop :=
  ∀ (E : Emb) (a : Act) (w : World) (K : Act → World → Prop) (Q : Exit → Act → World → Prop), TInv N E T a w → HInv E H w → (∀ b ∈ e.nw, ¬ E.U b) →
    (∀ u E' w', RepA w' E' e.v u → HInv E' (updH H e.wr) w' → Ext E.U E w E' w' → (∀ b, E'.U b ↔ E.U b ∨ b ∈ e.nw) → K (a.put o.dst u) w') → o.wp P a w K Q

def OpLoc (P : Program) (o : Oper) (N : Nat) (T : Nat → AV) (H : Nat → Option Block) (e : Eff) : Prop :=
  ∀ T' H', (∀ x ∈ o.op.operands, ev T' x = ev T x) → (∀ b ∈ e.rd, H' b = H b) → OpAt P o N T' H' e

structure Ent where
  on : Bool
  e : Eff

def offEnt : Ent := ⟨false, ⟨.tup [], [], [], []⟩⟩

def Tf (op : Nat → Oper) (tab : Nat → Ent) (S : Nat → Bool) (T : Nat → AV) : Nat → Nat → AV
  | 0 => T
  | m + 1 => if S m then setT (Tf op tab S T m) (op m).dst (tab m).e.v else Tf op tab S T m
def Hf (tab : Nat → Ent) (S : Nat → Bool) (H : Nat → Option Block) : Nat → Nat → Option Block
  | 0 => H
  | m + 1 => if S m then updH (Hf tab S H m) (tab m).e.wr else Hf tab S H m

def lookT (ops : Array Oper) (o : Oper) : List Nat := o.looksAt ops

/-- two operations that must come in a fixed order -/
structure Apart (ops : Array Oper) (o o' : Oper) (e e' : Eff) : Prop where
  l1 : ∀ d, o.dst = some d → d ∉ o'.looksAt ops
  l2 : ∀ d, o'.dst = some d → d ∉ o.looksAt ops
  dd : ∀ d, o.dst = some d → o'.dst ≠ some d
  h1 : ∀ p ∈ e.wr, p.1 ∉ e'.rd
  h2 : ∀ p ∈ e'.wr, p.1 ∉ e.rd
  hh : ∀ p ∈ e.wr, ∀ q ∈ e'.wr, p.1 ≠ q.1

theorem updH_not {l : List (Nat × Option Block)} : ∀ {H : Nat → Option Block} {b : Nat}, (∀ p ∈ l, p.1 ≠ b) → updH H l b = H b := by
  induction l with
  | nil => intro H b _; rfl
  | cons p l ih =>
    intro H b h
    simp only [updH]
    rw [ih fun q hq => h q (List.mem_cons_of_mem _ hq)]
    simp [setH, Ne.symm (h p (List.mem_cons_self ..))]
theorem updH_congr {l : List (Nat × Option Block)} : ∀ {H G : Nat → Option Block} {b : Nat}, H b = G b → updH H l b = updH G l b := by
  induction l with
  | nil => intro H G b h; exact h
  | cons p l ih =>
    intro H G b h
    simp only [updH]
    refine ih ?_
    by_cases e : b = p.1 <;> simp [setH, e, h]
theorem setT_not {T : Nat → AV} {d : Option Nat} {v : AV} {t : Nat} (h : d ≠ some t) : setT T d v t = T t := by
  cases d with
  | none => rfl
  | some d => simp [setT, show t ≠ d from fun e => h (e ▸ rfl)]
theorem setT_congr {T T' : Nat → AV} {d : Option Nat} {v : AV} {t : Nat} (h : T t = T' t) : setT T d v t = setT T' d v t := by
  cases d with
  | none => exact h
  | some d => simp [setT, h]

section
variable {op : Nat → Oper} {tab : Nat → Ent} {T : Nat → AV} {H : Nat → Option Block}

/-- a slot that only operations ahead of i write (all of them done), and none behind it (none of them done) -/
theorem Tf_at {S A : Nat → Bool} {i t : Nat} (hA : ∀ k, k < i → (op k).dst = some t → S k = A k) : ∀ m, i ≤ m → (∀ k, i ≤ k → k < m → (op k).dst = some t → S k = false) →
    Tf op tab S T m t = Tf op tab A T i t := by
  intro m hm hB
  induction m with
  | zero =>
    have : i = 0 := by omega
    subst this; rfl
  | succ m ih =>
    by_cases e : i = m + 1
    · subst e
      clear ih hB hm
      have key : ∀ j, j ≤ m + 1 → Tf op tab S T j t = Tf op tab A T j t := by
        intro j hj
        induction j with
        | zero => rfl
        | succ j ih =>
          have ih := ih (by omega)
          simp only [Tf]
          by_cases hd : (op j).dst = some t
          · rw [hA j (by omega) hd]
            split
            · exact setT_congr ih
            · exact ih
          · have f : ∀ (B : Nat → Bool) , (if B j then setT (Tf op tab B T j) (op j).dst (tab j).e.v else Tf op tab B T j) t = Tf op tab B T j t := by
              intro B; split
              · exact setT_not hd
              · rfl
            rw [f S, f A]; exact ih
      exact key _ (Nat.le_refl _)
    · have ih := ih (by omega) fun k h1 h2 => hB k h1 (by omega)
      simp only [Tf]
      by_cases hd : (op m).dst = some t
      · rw [hB m (by omega) (by omega) hd]; exact ih
      · split
        · rw [setT_not hd]; exact ih
        · exact ih

theorem Hf_at {S A : Nat → Bool} {i b : Nat} (hA : ∀ k, k < i → (∃ p ∈ (tab k).e.wr, p.1 = b) → S k = A k) : ∀ m, i ≤ m → (∀ k, i ≤ k → k < m → (∃ p ∈ (tab k).e.wr, p.1 = b) → S k = false) →
    Hf tab S H m b = Hf tab A H i b := by
  intro m hm hB
  induction m with
  | zero =>
    have : i = 0 := by omega
    subst this; rfl
  | succ m ih =>
    by_cases e : i = m + 1
    · subst e
      clear ih hB hm
      have key : ∀ j, j ≤ m + 1 → Hf tab S H j b = Hf tab A H j b := by
        intro j hj
        induction j with
        | zero => rfl
        | succ j ih =>
          have ih := ih (by omega)
          simp only [Hf]
          by_cases hd : ∃ p ∈ (tab j).e.wr, p.1 = b
          · rw [hA j (by omega) hd]
            split
            · exact updH_congr ih
            · exact ih
          · have hd' : ∀ p ∈ (tab j).e.wr, p.1 ≠ b := fun p hp e => hd ⟨p, hp, e⟩
            have f : ∀ (B : Nat → Bool), (if B j then updH (Hf tab B H j) (tab j).e.wr else Hf tab B H j) b = Hf tab B H j b := by
              intro B; split
              · exact updH_not hd'
              · rfl
            rw [f S, f A]; exact ih
      exact key _ (Nat.le_refl _)
    · have ih := ih (by omega) fun k h1 h2 => hB k h1 (by omega)
      simp only [Hf]
      by_cases hd : ∃ p ∈ (tab m).e.wr, p.1 = b
      · rw [hB m (by omega) (by omega) hd]; exact ih
      · have hd' : ∀ p ∈ (tab m).e.wr, p.1 ≠ b := fun p hp e => hd ⟨p, hp, e⟩
        split
        · rw [updH_not hd']; exact ih
        · exact ih

/-- one more operation is done -/
theorem Tf_put {S S' : Nat → Bool} {i : Nat} (hi : S' i = true) (hS : ∀ k, k ≠ i → S' k = S k) (hn : S i = false) : ∀ m, i < m → (∀ k d, i < k → k < m → S k = true → (op i).dst = some d → (op k).dst ≠ some d) →
    Tf op tab S' T m = setT (Tf op tab S T m) (op i).dst (tab i).e.v := by
  have below : ∀ j, j ≤ i → Tf op tab S' T j = Tf op tab S T j := by
    intro j hj
    induction j with
    | zero => rfl
    | succ j ih => simp only [Tf]; rw [hS j (by omega), ih (by omega)]
  intro m hm hd
  induction m with
  | zero => omega
  | succ m ih =>
    simp only [Tf]
    by_cases e : m = i
    · subst e
      rw [hi, hn, below m (Nat.le_refl _)]; simp
    · rw [hS m e]
      have ih := ih (by omega) fun k d h1 h2 => hd k d h1 (by omega)
      cases hk : S m with
      | false => simpa using ih
      | true =>
        simp only [if_true]
        rw [ih]
        funext t
        cases h1 : (op i).dst with
        | none => simp [setT]
        | some d =>
          have h2 := hd m d (by omega) (by omega) hk h1
          cases h3 : (op m).dst with
          | none => simp [setT]
          | some d' =>
            have : d' ≠ d := fun e => h2 (by rw [h3, e])
            by_cases e1 : t = d'
            · subst e1; simp [setT, this]
            · simp [setT, e1]

theorem updH_comm {l l' : List (Nat × Option Block)} {H : Nat → Option Block} (h : ∀ p ∈ l, ∀ q ∈ l', p.1 ≠ q.1) : updH (updH H l) l' = updH (updH H l') l := by
  funext b
  by_cases e : ∃ p ∈ l, p.1 = b
  · obtain ⟨p, hp, rfl⟩ := e
    rw [updH_not fun q hq => Ne.symm (h p hp q hq)]
    exact updH_congr (updH_not fun q hq => Ne.symm (h p hp q hq)).symm
  · have e : ∀ p ∈ l, p.1 ≠ b := fun p hp g => e ⟨p, hp, g⟩
    rw [updH_not (H := updH H l') e]
    exact updH_congr (updH_not e)

theorem Hf_put {S S' : Nat → Bool} {i : Nat} (hi : S' i = true) (hS : ∀ k, k ≠ i → S' k = S k) (hn : S i = false) : ∀ m, i < m → (∀ k, i < k → k < m → S k = true → ∀ p ∈ (tab i).e.wr, ∀ q ∈ (tab k).e.wr, p.1 ≠ q.1) →
    Hf tab S' H m = updH (Hf tab S H m) (tab i).e.wr := by
  have below : ∀ j, j ≤ i → Hf tab S' H j = Hf tab S H j := by
    intro j hj
    induction j with
    | zero => rfl
    | succ j ih => simp only [Hf]; rw [hS j (by omega), ih (by omega)]
  intro m hm hd
  induction m with
  | zero => omega
  | succ m ih =>
    simp only [Hf]
    by_cases e : m = i
    · subst e
      rw [hi, hn, below m (Nat.le_refl _)]; simp
    · rw [hS m e]
      have ih := ih (by omega) fun k h1 h2 => hd k h1 (by omega)
      cases hk : S m with
      | false => simpa using ih
      | true =>
        simp only [if_true]
        rw [ih, updH_comm (hd m (by omega) (by omega) hk)]
end

/-- what a guard sees -/
def yv : AV → Option (Option Bool)
  | .cv (.sc (.bool b)) => some (some b)
  | .cv (.sc _) | .tup _ => some none
  | _ => none
def asB : Value → Option Bool
  | .bool b => some b
  | _ => none
theorem yv_rep {w : World} {E : Emb} {x : AV} {v : Value} {r : Option Bool} (h : RepA w E x v) (hy : yv x = some r) : asB v = r := by
  cases h with
  | cv c v h =>
    cases h with
    | sc v ho =>
      cases v <;> simp [yv] at hy <;> simp [asB, hy]
    | _ => simp [yv] at hy
  | tup cs vs => simp [yv] at hy; simp [asB, hy]
  | _ => simp [yv] at hy

structure Tab (P : Program) (ops : Array Oper) (N : Nat) (T : Nat → AV) (H : Nat → Option Block) (nx : Nat) (op : Nat → Oper) (tab : Nat → Ent) (bef : Nat → Nat → Bool) : Prop where
  hop : ∀ i, i < ops.size → ops[i]? = some (op i)
  hdst : ∀ i, i < ops.size → ∀ d, (op i).dst = some d → d < N
  hguard : ∀ i, i < ops.size → match (op i).guard with
    | none => (tab i).on = true
    | some (j, want) => j < i ∧ bef j i = true ∧ ∃ d r, (op j).dst = some d ∧ yv (Tf op tab (fun _ => true) T i d) = some r ∧ (tab i).on = (r == some want)
  hon : ∀ i, i < ops.size → (tab i).on = true → OpLoc P (op i) N (Tf op tab (fun _ => true) T i) (Hf tab (fun _ => true) H i) (tab i).e
  hoff : ∀ i, i < ops.size → (tab i).on = false → (tab i) = offEnt
  hnw : ∀ i, i < ops.size → ∀ b ∈ (tab i).e.nw, nx ≤ b ∧ ∀ j, j < i → b ∉ (tab j).e.nw
  hap : ∀ i, i < ops.size → ∀ j, j < i → bef j i = true ∨ Apart ops (op j) (op i) (tab j).e (tab i).e

structure Before (ops : Array Oper) (op : Nat → Oper) (bef : Nat → Nat → Bool) : Prop where
  edge : ∀ i, i < ops.size → ∀ e ∈ (op i).after, Region.binds .any e = true → e.on < i
  trans : ∀ (S : Nat → Bool), ∀ i, i < ops.size → (∀ k, k < i → S k = true → ∀ e ∈ (op k).after, Region.binds .any e = true → S e.on = true) →
    (∀ e ∈ (op i).after, Region.binds .any e = true → S e.on = true) → ∀ j, bef j i = true → S j = true

section
variable {P : Program} {ops : Array Oper} {N : Nat} {T : Nat → AV} {H : Nat → Option Block} {nx : Nat} {op : Nat → Oper} {tab : Nat → Ent} {bef : Nat → Nat → Bool}

/-- one operation, wherever it comes -/
theorem Tab.step (h : Tab P ops N T H nx op tab bef) (hb : Before ops op bef) {S S' : Nat → Bool} {i : Nat} (hi : i < ops.size) (hSn : S i = false)
    (hcl : ∀ k, k < ops.size → S k = true → ∀ e ∈ (op k).after, Region.binds .any e = true → S e.on = true)
    (hrd : ∀ e ∈ (op i).after, Region.binds .any e = true → S e.on = true) (hS'i : S' i = true) (hS' : ∀ k, k ≠ i → S' k = S k)
    {E : Emb} {a : Act} {w : World} {Q : Exit → Act → World → Prop} {K : Act → World → Prop} (ht : TInv N E (Tf op tab S T ops.size) a w) (hh : HInv E (Hf tab S H ops.size) w)
    (hU : ∀ b, E.U b → b < nx ∨ ∃ k, k < ops.size ∧ S k = true ∧ b ∈ (tab k).e.nw)
    (next : ∀ E' a' w', TInv N E' (Tf op tab S' T ops.size) a' w' → HInv E' (Hf tab S' H ops.size) w' → Ext E.U E w E' w' → (∀ b, E.U b → E'.U b) →
      (∀ b, E'.U b → b < nx ∨ ∃ k, k < ops.size ∧ S' k = true ∧ b ∈ (tab k).e.nw) → K a' w') : wpOp P ops Q i K a w := by
  have befS : ∀ k, k < ops.size → S k = true → ∀ j, bef j k = true → S j = true := fun k hk hs j hj =>
    hb.trans S k hk (fun l hl hsl => hcl l (by omega) hsl) (hcl k hk hs) j hj
  have befi : ∀ j, bef j i = true → S j = true := fun j hj => hb.trans S i hi (fun l hl hsl => hcl l (by omega) hsl) hrd j hj
  -- what comes behind i in the text and is done stands apart from it; what comes ahead and is not done, too
  have apB : ∀ k, i < k → k < ops.size → S k = true → Apart ops (op i) (op k) (tab i).e (tab k).e := fun k h1 h2 h3 => by
    rcases h.hap k h2 i h1 with g | g
    · have := befS k h2 h3 i g; rw [hSn] at this; cases this
    · exact g
  have apA : ∀ k, k < i → S k = false → Apart ops (op k) (op i) (tab k).e (tab i).e := fun k h1 h3 => by
    rcases h.hap i hi k h1 with g | g
    · have := befi k g; rw [h3] at this; cases this
    · exact g
  have look : ∀ t, t ∈ (op i).looksAt ops → Tf op tab S T ops.size t = Tf op tab (fun _ => true) T i t := fun t htl => by
    refine Tf_at (fun k hk hd => ?_) ops.size (by omega) fun k h1 h2 hd => ?_
    · cases hs : S k with
      | true => rfl
      | false => exact absurd htl ((apA k hk hs).l1 t hd)
    · by_cases e : k = i
      · exact e ▸ hSn
      · cases hs : S k with
        | false => rfl
        | true => exact absurd htl ((apB k (by omega) h2 hs).l2 t hd)
  have heap : ∀ b, b ∈ (tab i).e.rd → Hf tab S H ops.size b = Hf tab (fun _ => true) H i b := fun b hbr => by
    refine Hf_at (fun k hk hd => ?_) ops.size (by omega) fun k h1 h2 hd => ?_
    · obtain ⟨p, hp, rfl⟩ := hd
      cases hs : S k with
      | true => rfl
      | false => exact absurd hbr ((apA k hk hs).h1 p hp)
    · obtain ⟨p, hp, rfl⟩ := hd
      by_cases e : k = i
      · exact e ▸ hSn
      · cases hs : S k with
        | false => rfl
        | true => exact absurd hbr ((apB k (by omega) h2 hs).h2 p hp)
  have eT : Tf op tab S' T ops.size = setT (Tf op tab S T ops.size) (op i).dst (tab i).e.v :=
    Tf_put hS'i hS' hSn ops.size hi fun k d h1 h2 h3 h4 h5 => (apB k h1 h2 h3).dd d h4 h5
  have eH : Hf tab S' H ops.size = updH (Hf tab S H ops.size) (tab i).e.wr :=
    Hf_put hS'i hS' hSn ops.size hi fun k h1 h2 h3 p hp q hq => (apB k h1 h2 h3).hh p hp q hq
  have hUS : ∀ b, (b < nx ∨ ∃ k, k < ops.size ∧ S k = true ∧ b ∈ (tab k).e.nw) → (b < nx ∨ ∃ k, k < ops.size ∧ S' k = true ∧ b ∈ (tab k).e.nw) := fun b hb' => by
    rcases hb' with h1 | ⟨k, h1, h2, h3⟩
    · exact .inl h1
    · refine .inr ⟨k, h1, ?_, h3⟩
      rw [hS' k fun e => by rw [e, hSn] at h2; cases h2]; exact h2
  have wanted : Region.wanted (op i) (yielded ops a.tmps) = (tab i).on := by
    have g := h.hguard i hi
    unfold Region.wanted
    cases hg : (op i).guard with
    | none => rw [hg] at g; exact g.symm
    | some jw =>
      obtain ⟨j, want⟩ := jw
      rw [hg] at g
      obtain ⟨hj, hbj, d, r, hd, hy, hon⟩ := g
      have hop := h.hop j (by omega)
      have hl : d ∈ (op i).looksAt ops := by simp [Oper.looksAt, hg, hop, hd]
      have hr := yv_rep (ht.tm d) (by rw [look d hl]; exact hy)
      simp only
      rw [hon]
      congr 1
      unfold yielded
      have hdN := h.hdst j (by omega) d hd
      have hlt : d < a.tmps.size := by rw [ht.sz]; exact hdN
      rw [hop]
      simp only [Option.bind_some, hd, Array.getElem?_eq_getElem hlt]
      have hv : a.tmps.getD d undef = a.tmps[d] := by rw [Array.getD_eq_getD_getElem?, Array.getElem?_eq_getElem hlt]; rfl
      rw [hv] at hr
      rw [← hr]
      cases a.tmps[d] <;> rfl
  unfold wpOp
  rw [h.hop i hi]
  simp only
  rw [wanted]
  cases hon : (tab i).on with
  | false =>
    simp only [Bool.false_eq_true, if_false]
    have ho := h.hoff i hi hon
    refine next E _ w ?_ ?_ (Ext.refl _ _ _) (fun _ h => h) fun b hb' => hUS b (hU b hb')
    · rw [eT, ho]; exact ht.put _ (h.hdst i hi) (.tup [] #[] rfl (by simp))
    · rw [eH, ho]; exact hh
  | true =>
    simp only [if_true]
    refine .inl ?_
    refine h.hon i hi hon _ _ (fun x hx => ?_) heap E a w K Q ht hh (fun b hbn hub => ?_) fun u E' w' hr hhi hx hu => ?_
    · cases x with
      | tmp t => exact look t (by simp only [Oper.looksAt, List.mem_append, List.mem_filterMap]; exact .inl ⟨_, Array.mem_toList_iff.2 hx, rfl⟩)
      | _ => rfl
    · obtain ⟨h1, h2⟩ := h.hnw i hi b hbn
      rcases hU b hub with g | ⟨k, g1, g2, g3⟩
      · omega
      · rcases Nat.lt_trichotomy k i with g | g | g
        · exact h2 k g g3
        · rw [g, hSn] at g2; cases g2
        · exact (h.hnw k g1 b g3).2 i g hbn
    · have hu' : ∀ b, E.U b → E'.U b := fun b hb' => (hu b).2 (.inl hb')
      refine next E' _ w' ?_ (by rw [eH]; exact hhi) hx hu' fun b hb' => ?_
      · rw [eT]; exact (ht.mono hx hu' hh.prfr).put _ (h.hdst i hi) hr
      · rcases (hu b).1 hb' with g | g
        · exact hUS b (hU b g)
        · exact .inr ⟨i, hi, hS'i, g⟩

theorem mem_ready {listed : Array Bool} {i : Nat} (h : Tab P ops N T H nx op tab bef) : i ∈ Region.ready .any ops listed ↔ i < ops.size ∧ listed.getD i true = false ∧ ∀ e ∈ (op i).after, Region.binds .any e = true → listed.getD e.on false = true := by
  unfold Region.ready
  rw [List.mem_filter, List.mem_range]
  constructor
  · rintro ⟨h1, h2⟩
    rw [h.hop i h1] at h2
    simp only [Option.map_some, Option.getD_some, Bool.and_eq_true, Array.all_eq_true', Bool.or_eq_true, Bool.not_eq_eq_eq_not, Bool.not_true] at h2
    refine ⟨h1, h2.1, fun e he hb => ?_⟩
    rcases h2.2 e he with g | g
    · rw [g] at hb; cases hb
    · exact g
  · rintro ⟨h1, h2, h3⟩
    refine ⟨h1, ?_⟩
    rw [h.hop i h1]
    simp only [Option.map_some, Option.getD_some, Bool.and_eq_true, Array.all_eq_true', Bool.or_eq_true, Bool.not_eq_eq_eq_not, Bool.not_true]
    refine ⟨h2, fun e he => ?_⟩
    cases hb : Region.binds .any e with
    | false => exact .inl rfl
    | true => exact .inr (h3 e he hb)

theorem count_set {l : Array Bool} {i : Nat} (hi : i < l.size) (h : l.getD i true = false) : (l.setIfInBounds i true).toList.count false + 1 = l.toList.count false := by
  have hg : l[i] = false := by simpa [Array.getD_eq_getD_getElem?, hi] using h
  have hl : i < l.toList.length := by simpa using hi
  rw [Array.toList_setIfInBounds, List.count_set (by simpa using hi)]
  have hc : 0 < l.toList.count false := List.count_pos_iff.2 (by rw [← hg]; simp)
  have e : (l.toList[i] == false) = true := by simp [hg]
  have e2 : ((true : Bool) == false) = false := rfl
  rw [if_pos e, e2, if_neg (by simp)]
  omega

/-- a region in whatever order -/
theorem Tab.any (h : Tab P ops N T H nx op tab bef) (hb : Before ops op bef) {Q : Exit → Act → World → Prop} {E₀ : Emb} {w₀ : World}
    (fin : ∀ E a w, TInv N E (Tf op tab (fun _ => true) T ops.size) a w → HInv E (Hf tab (fun _ => true) H ops.size) w → Ext E₀.U E₀ w₀ E w → (∀ b, E₀.U b → E.U b) →
      (∀ b, E.U b → b < nx ∨ ∃ k, k < ops.size ∧ b ∈ (tab k).e.nw) → Q .normal a w) :
    ∀ (fuel : Nat) (listed : Array Bool) (S : Nat → Bool) (E : Emb) (a : Act) (w : World), listed.size = ops.size → listed.toList.count false = fuel → (∀ i, i < ops.size → S i = listed.getD i true) → (∀ i, ops.size ≤ i → S i = true) →
      (∀ k, k < ops.size → S k = true → ∀ e ∈ (op k).after, Region.binds .any e = true → S e.on = true) →
      TInv N E (Tf op tab S T ops.size) a w → HInv E (Hf tab S H ops.size) w → Ext E₀.U E₀ w₀ E w → (∀ b, E₀.U b → E.U b) → (∀ b, E.U b → b < nx ∨ ∃ k, k < ops.size ∧ S k = true ∧ b ∈ (tab k).e.nw) →
      wpAny P .any ops Q fuel listed a w := by
  have done : ∀ (listed : Array Bool) (S : Nat → Bool) (E : Emb) (a : Act) (w : World), listed.size = ops.size → (∀ i, i < ops.size → S i = listed.getD i true) → (∀ i, ops.size ≤ i → S i = true) →
      Region.ready .any ops listed = [] → TInv N E (Tf op tab S T ops.size) a w → HInv E (Hf tab S H ops.size) w → Ext E₀.U E₀ w₀ E w → (∀ b, E₀.U b → E.U b) →
      (∀ b, E.U b → b < nx ∨ ∃ k, k < ops.size ∧ S k = true ∧ b ∈ (tab k).e.nw) → Q .normal a w := by
    intro listed S E a w hsz hSl hSo hr ht hh hx hu hU
    have all : ∀ i, S i = true := by
      intro i
      induction i using Nat.strongRecOn with
      | _ i ih =>
        rcases Nat.lt_or_ge i ops.size with hi | hi
        · cases hs : S i with
          | true => rfl
          | false =>
            have : i ∈ Region.ready .any ops listed := (mem_ready h).2 ⟨hi, (hSl i hi) ▸ hs, fun e he hbn => by
              have hlt := hb.edge i hi e he hbn
              have h1 := ih e.on hlt
              rw [hSl e.on (by omega)] at h1
              have hs' : e.on < listed.size := by omega
              simpa [Array.getD_eq_getD_getElem?, hs'] using h1⟩
            rw [hr] at this; cases this
        · exact hSo i hi
    have eS : S = fun _ => true := funext all
    subst eS
    exact fin E a w ht hh hx hu fun b hb' => (hU b hb').imp id fun ⟨k, h1, _, h3⟩ => ⟨k, h1, h3⟩
  intro fuel
  induction fuel with
  | zero =>
    intro listed S E a w hsz hc hSl hSo hcl ht hh hx hu hU
    have hr : Region.ready .any ops listed = [] := by
      rw [List.eq_nil_iff_forall_not_mem]
      intro i hi
      obtain ⟨h1, h2, _⟩ := (mem_ready h).1 hi
      have := count_set (by omega) h2
      omega
    exact ⟨hr, done listed S E a w hsz hSl hSo hr ht hh hx hu hU⟩
  | succ fuel ih =>
    intro listed S E a w hsz hc hSl hSo hcl ht hh hx hu hU
    refine ⟨fun hr => done listed S E a w hsz hSl hSo hr ht hh hx hu hU, fun i hi => ?_⟩
    obtain ⟨h1, h2, h3⟩ := (mem_ready h).1 hi
    have hon : ∀ k, k < ops.size → listed.getD k false = true → S k = true := fun k hk hg => by
      have hs' : k < listed.size := by omega
      rw [hSl k hk]; simpa [Array.getD_eq_getD_getElem?, hs'] using hg
    have hrd : ∀ e ∈ (op i).after, Region.binds .any e = true → S e.on = true := fun e he hbn => hon _ (by have := hb.edge i h1 e he hbn; omega) (h3 e he hbn)
    refine h.step hb (S' := fun k => if k = i then true else S k) h1 ((hSl i h1).trans h2) hcl hrd (by simp) (fun k hk => by simp [hk]) ht hh hU fun E' a' w' ht' hh' hx' hu' hU' => ?_
    refine ih _ _ E' a' w' (by simpa using hsz) (by have := count_set (by omega) h2; omega) (fun k hk => ?_) (fun k hk => ?_) (fun k hk hs e he hbn => ?_) ht' hh' (hx.trans' hx' hu) (fun b hb' => hu' b (hu b hb')) hU'
    · by_cases e : k = i
      · subst e; simp [Array.getD_eq_getD_getElem?, hsz, hk]
      · rw [if_neg e, hSl k hk]; simp [Array.getD_eq_getD_getElem?, Array.getElem?_setIfInBounds_ne (Ne.symm e)]
    · by_cases e : k = i
      · simp [e]
      · simp [e, hSo k hk]
    · by_cases e1 : e.on = i
      · simp [e1]
      · simp only [e1, if_false]
        by_cases e2 : k = i
        · subst e2; exact hrd e he hbn
        · simp only [e2, if_false] at hs; exact hcl k hk hs e he hbn
end
end Go.Proofs.Ytnffoddeppimkaa.AW
