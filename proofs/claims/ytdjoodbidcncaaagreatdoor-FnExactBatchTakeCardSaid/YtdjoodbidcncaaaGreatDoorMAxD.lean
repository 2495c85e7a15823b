/- Operations: what each does to an abstract state (values). -/
import Derived.Test.YtdjoodbidcncaaaGreatDoorMAxMo
import Derived.Conc.Listed
import Derived.Conc.EventLaws2
set_option linter.unusedVariables false
set_option linter.unusedSimpArgs false
namespace Go.Proofs.YtdjoodbidcncaaaGreatDoor.AW
open Go

abbrev iv (k : IntKind) (z : Int) : AV := .cv (.sc (.int k z))
abbrev bv (q : Bool) : AV := .cv (.sc (.bool q))
abbrev sv (s : ByteArray) : AV := .cv (.sc (.string s))

section
variable {w : World} {E : Emb} {u : Value}
theorem rep_sc {v : Value} (h : RepA w E (.cv (.sc v)) u) : u = v := by cases h with | cv c v h => cases h; rfl
theorem rep_ptr {b st i k : Nat} (h : RepA w E (.ptr b st i k) u) : E.U b ∧ u = .pointer (some ⟨E.blk b, i * st + k, none⟩) := by cases h with | ptr _ _ _ _ hU _ => exact ⟨hU, rfl⟩
theorem rep_ptr_g {b st i k : Nat} (h : RepA w E (.ptr b st i k) u) : ¬ E.gh b := by cases h with | ptr _ _ _ _ _ hg => exact hg
theorem rep_own {b st o n : Nat} {cap : Option Nat} (h : RepA w E (.own b st o n cap) u) : ∃ c a, u = .slice a n c ∧ E.U b ∧ n ≤ c ∧ (∀ x, cap = some x → c = x) ∧ ((¬ E.gh b ∧ a = some ⟨E.blk b, o * st, none⟩ ∧ (o + c) * st ≤ E.sz b) ∨ (E.gh b ∧ n = 0 ∧ c = 0)) := by
  cases h with
  | own _ _ _ _ _ c h1 h2 h3 h4 h5 => exact ⟨c, _, rfl, h1, h3, h4, .inl ⟨h2, rfl, h5⟩⟩
  | own0 _ _ _ _ a h1 h2 h3 => exact ⟨0, a, rfl, h1, Nat.le_refl _, fun x hx => (h3 x hx).symm, .inr ⟨h2, rfl, rfl⟩⟩
theorem rep_agg {cs : List AV} (h : RepA w E (.agg cs) u) : ∃ vs : Array Value, u = .agg vs ∧ vs.size = cs.length ∧ ∀ k x, cs[k]? = some x → RepA w E x (vs.getD k undef) := by
  cases h with | agg _ vs hs h => exact ⟨vs, rfl, hs, h⟩
theorem rep_tup {cs : List AV} (h : RepA w E (.tup cs) u) : ∃ vs : Array Value, u = .tuple vs ∧ vs.size = cs.length ∧ ∀ k x, cs[k]? = some x → RepA w E x (vs.getD k undef) := by
  cases h with | tup _ vs hs h => exact ⟨vs, rfl, hs, h⟩
theorem rep_ifc {t : TypeId} {c : AV} (h : RepA w E (.ifc t c) u) : ∃ v, u = .iface t v ∧ RepA w E c v := by cases h with | ifc _ _ v h => exact ⟨v, rfl, h⟩
theorem rep_fn {f : Fn} {fs cs : List AV} (h : RepA w E (.fn f fs cs) u) : ∃ a b : Array Value, u = .func f a b ∧ a.size = fs.length ∧ b.size = cs.length ∧ (∀ (k : Nat) (x : AV), fs[k]? = some x → RepA w E x (a.getD k undef)) ∧ ∀ (k : Nat) (x : AV), cs[k]? = some x → RepA w E x (b.getD k undef) := by
  cases h with | fn _ _ _ a b h1 h2 h3 h4 => exact ⟨a, b, rfl, h1, h2, h3, h4⟩
theorem rep_ro {st : Nat} {es : List (List CV)} {cap : Option Nat} (h : RepA w E (.cv (.ro st es cap)) u) : ∃ (a : Option Addr) (n c : Nat) (vs : Nat → Nat → Value), u = .slice a n c ∧ n = es.length ∧ n ≤ c ∧ (∀ x, cap = some x → c = x) ∧ (∀ e ∈ es, e.length = st) ∧
      (∀ i e, es[i]? = some e → ∃ ad, a = some ad ∧ ad.spot = none ∧ E.pr ad.block ∧ ∀ k x, e[k]? = some x → cellAt w ad.block (ad.off + (i * st + k)) = some (vs i k)) ∧
      (∀ i e k x, es[i]? = some e → e[k]? = some x → RepC w E.pr x (vs i k)) := by
  cases h with | cv _ _ h => cases h with | ro _ _ _ a n c vs h1 h2 h3 h4 h5 h6 => exact ⟨a, n, c, vs, rfl, h1, h2, h3, h4, h5, h6⟩
theorem rep_rp {cs : List CV} (h : RepA w E (.cv (.rp cs)) u) : ∃ (p : Addr) (vs : Nat → Value), u = .pointer (some p) ∧ p.spot = none ∧ E.pr p.block ∧ (∀ k x, cs[k]? = some x → cellAt w p.block (p.off + k) = some (vs k)) ∧ ∀ k x, cs[k]? = some x → RepC w E.pr x (vs k) := by
  cases h with | cv _ _ h => cases h with | rp _ p vs h1 h2 h3 h4 => exact ⟨p, vs, rfl, h1, h2, h3, h4⟩
end

section
variable {C : Ctx} {o : Oper} {N : Nat} {T : Nat → AV} {H : Nat → Option Block}

theorem seen_sub {P : Program} {fn : FuncId} {es : Array Event} : ∀ e ∈ seen P fn es, e ∈ es := by
  intro e he
  exact Go.Conc.mem_seen he
theorem loc_mk {e : Eff} (h : ∀ T' H', (∀ x ∈ o.op.operands, ev T' x = ev T x) → (∀ b ∈ e.rd, H' b = H b) → ∀ E a w, TInv N E T' a w → HInv E H' w → (∀ b ∈ e.nw, ¬ E.U b) →
    ∃ u w' E', ((execOp a.eval o).run C.P w = .ok (.value u) w' ∨ ((execOp a.eval o).run C.P w = .ok .skip w' ∧ u = undef)) ∧ RepA w' E' e.v u ∧ HInv E' (updH H' e.wr) w' ∧ Ext E.U E w E' w' ∧ (∀ b, E'.U b ↔ E.U b ∨ b ∈ e.nw) ∧ EvOk E w w' ((execOp a.eval o).events C.P w #[])) : OpLoc C.M o N T H e := by
  intro T' H' h1 h2 fn E a w x K ht hh hok hf hk
  refine C.sound.opVal fun w₁ hr => ?_
  obtain ⟨hheap, hio⟩ := C.sound.rel hr
  obtain ⟨g1, g2⟩ := hh.same hheap hio
  have hok₁ := C.sound.okExt hok g2
  obtain ⟨u, w', E', hr, hv, hH, hx, hU, hev⟩ := h T' H' h1 h2 E a w₁ (ht.mono g2 (fun _ h => h) hh.prfr) g1 hf
  exact ⟨u, w', hr, hx.sz, C.sound.evSub (C.sound.okEv hok₁ hev) seen_sub, hk u E' w' x hv hH (C.sound.okExt hok₁ hx) (C.M.leRefl _ _) (g2.trans hx) hU⟩

theorem EvOk.nil {E : Emb} {w w' : World} {es : Array Event} (h : es = #[]) : EvOk E w w' es := by subst h; intro e he; simp at he
theorem loc_val {v : AV} {rd : List Nat} (h : ∀ T' H', (∀ x ∈ o.op.operands, ev T' x = ev T x) → (∀ b ∈ rd, H' b = H b) → ∀ E a w, TInv N E T' a w → HInv E H' w →
    ∃ u w', (execOp a.eval o).run C.P w = .ok (.value u) w' ∧ w' = w ∧ RepA w E v u ∧ EvOk E w w ((execOp a.eval o).events C.P w #[])) : OpLoc C.M o N T H ⟨v, [], [], rd⟩ :=
  loc_mk fun T' H' h1 h2 E a w ht hh _ => by
    obtain ⟨u, w', hr, hw, hv, he⟩ := h T' H' h1 h2 E a w ht hh
    subst hw
    exact ⟨u, w', E, .inl hr, hv, hh, Ext.refl _ _ _, fun b => by simp, he⟩

theorem rep_at {T' : Nat → AV} {E : Emb} {a : Act} {w : World} (ht : TInv N E T' a w) {x : Operand} {y : AV} (h1 : ev T' x = ev T x) (h2 : ev T x = y) : RepA w E y (a.eval x) := by
  rw [← h2, ← h1]; exact rep_ev ht x

/-- an effect that the walk goes on from -/
def Does (C : Ctx) (o : Oper) (N : Nat) (T : Nat → AV) (H : Nat → Option Block) (nx : Nat) (K : Eff → Prop) : Prop := ∃ e, OpLoc C.M o N T H e ∧ e.nw = List.range' nx e.nw.length ∧ K e
theorem does_val {nx : Nat} {K : Eff → Prop} {v : AV} {rd : List Nat} (hk : K ⟨v, [], [], rd⟩) (h : ∀ T' H', (∀ x ∈ o.op.operands, ev T' x = ev T x) → (∀ b ∈ rd, H' b = H b) → ∀ E a w, TInv N E T' a w → HInv E H' w →
    ∃ u w', (execOp a.eval o).run C.P w = .ok (.value u) w' ∧ w' = w ∧ RepA w E v u ∧ EvOk E w w ((execOp a.eval o).events C.P w #[])) : Does C o N T H nx K := ⟨_, loc_val h, rfl, hk⟩

theorem does_valq {nx : Nat} {K : Eff → Prop} {v : AV} {rd : List Nat} (hk : K ⟨v, [], [], rd⟩) (hq : ∀ ρ, Qt (execOp ρ o)) (h : ∀ T' H', (∀ x ∈ o.op.operands, ev T' x = ev T x) → (∀ b ∈ rd, H' b = H b) → ∀ E a w, TInv N E T' a w → HInv E H' w →
    ∃ u w', (execOp a.eval o).run C.P w = .ok (.value u) w' ∧ w' = w ∧ RepA w E v u) : Does C o N T H nx K := does_val hk fun T' H' h1 h2 E a w ht hh => by
  obtain ⟨u, w', g1, g2, g3⟩ := h T' H' h1 h2 E a w ht hh
  exact ⟨u, w', g1, g2, g3, (hq _).ev⟩

/-! no events -/
theorem int_ev {P : Program} {w : World} {t : TypeId} {op : BinOp} {k : IntKind} {i j : Int} : (binOp op t (.int k i) (.int k j)).events P w #[] = #[] := by
  cases op <;> simp [binOp, Op.intArith, Op.intDiv, Op.intCmp, Op.intBits, Op.shift, go_sem] <;> (repeat' (split <;> simp_all [go_sem]))
theorem guard_int_ev {P : Program} {w : World} {t : TypeId} {op : BinOp} {x y : Operand} {k : IntKind} {i j : Int} : (eqGuard op t x y (.int k i) (.int k j)).events P w #[] = #[] := by
  unfold eqGuard; cases op <;> rfl
theorem str_ev {P : Program} {w : World} {t : TypeId} {op : BinOp} {r s : ByteArray} : (binOp op t (.string r) (.string s)).events P w #[] = #[] := by
  cases op <;> simp [binOp, Op.stringOp, go_sem] <;> (repeat' (split <;> simp_all [go_sem]))
theorem guard_str_ev {P : Program} {w : World} {t : TypeId} {op : BinOp} {x y : Operand} {r s : ByteArray} : (eqGuard op t x y (.string r) (.string s)).events P w #[] = #[] := by
  unfold eqGuard; cases op <;> rfl
/-! moves -/
def vMove (x : AV) (K : Eff → Prop) : Prop := K ⟨x, [], [], []⟩
theorem vMove_ok {nx : Nat} {K : Eff → Prop} {x : Operand} (ho : o.op = .move x ∨ o.op = .assign x) (h : vMove (ev T x) K) : Does C o N T H nx K :=
  does_val h fun T' H' h1 _ E a w ht _ => ⟨a.eval x, w, by rcases ho with ho | ho <;> simp [execOp, ho], rfl, rep_at ht (h1 x (by rcases ho with ho | ho <;> simp [ho, Op.operands])) rfl, .nil (by rcases ho with ho | ho <;> simp [execOp, ho])⟩

def vPick (c x y : AV) (K : Eff → Prop) : Prop := match c with
  | .cv (.sc (.bool q)) => Br q (K ⟨x, [], [], []⟩) (K ⟨y, [], [], []⟩)
  | _ => False
theorem vPick_ok {nx : Nat} {K : Eff → Prop} {c x y : Operand} (ho : o.op = .pick c x y) (h : vPick (ev T c) (ev T x) (ev T y) K) : Does C o N T H nx K := by
  unfold vPick at h
  split at h
  · rename_i q hq
    have hm : ∀ z ∈ [c, x, y], z ∈ o.op.operands := by simp [ho, Op.operands]
    cases q with
    | true => exact does_val (h.1 rfl) fun T' H' h1 _ E a w ht _ => ⟨a.eval x, w, by have := rep_sc (rep_at ht (h1 c (hm c (by simp))) hq); simp [execOp, ho, this, asBool], rfl, rep_at ht (h1 x (hm x (by simp))) rfl, .nil (by have := rep_sc (rep_at ht (h1 c (hm c (by simp))) hq); simp [execOp, ho, this, asBool])⟩
    | false => exact does_val (h.2 rfl) fun T' H' h1 _ E a w ht _ => ⟨a.eval y, w, by have := rep_sc (rep_at ht (h1 c (hm c (by simp))) hq); simp [execOp, ho, this, asBool], rfl, rep_at ht (h1 y (hm y (by simp))) rfl, .nil (by have := rep_sc (rep_at ht (h1 c (hm c (by simp))) hq); simp [execOp, ho, this, asBool])⟩
  · exact h.elim

/-! operators -/
def vInt (op : BinOp) (k : IntKind) (a b : Int) (K : AV → Prop) : Prop := match op with
  | .add => ∃ z, k.wrap (a + b) = z ∧ K (iv k z)
  | .sub => ∃ z, k.wrap (a - b) = z ∧ K (iv k z)
  | .mul => ∃ z, k.wrap (a * b) = z ∧ K (iv k z)
  | .quo => b ≠ 0 ∧ ∃ z, k.wrap (a.tdiv b) = z ∧ K (iv k z)
  | .rem => b ≠ 0 ∧ ∃ z, a.tmod b = z ∧ K (iv k z)
  | .eql => K (bv (decide (a = b)))
  | .neq => K (bv (decide (a ≠ b)))
  | .lss => K (bv (decide (a < b)))
  | .leq => K (bv (decide (a ≤ b)))
  | .gtr => K (bv (decide (a > b)))
  | .geq => K (bv (decide (a ≥ b)))
  | .and | .or | .xor | .andNot => ∃ z, (∀ P w, (Op.intBits op k a b).run P w = .ok (.int k z) w) ∧ K (iv k z)
  | .shl | .shr => ∃ z, (∀ P w, (Op.shift op k a k b).run P w = .ok (.int k z) w) ∧ K (iv k z)
/-- is it a pointer at sight, and is it nil -/
def ptrNil : AV → Option Bool
  | .ptr .. | .cv (.rp _) => some false
  | .cv (.sc (.pointer none)) => some true
  | _ => none
theorem ptrNil_rep {w : World} {E : Emb} {x : AV} {u : Value} {q : Bool} (h : RepA w E x u) (hq : ptrNil x = some q) : ∃ p, u = .pointer p ∧ p.isNone = q := by
  unfold ptrNil at hq
  split at hq
  · cases hq; obtain ⟨_, e⟩ := rep_ptr h; exact ⟨_, e, rfl⟩
  · cases hq; obtain ⟨p, vs, e, _⟩ := rep_rp h; exact ⟨_, e, rfl⟩
  · cases hq; exact ⟨_, rep_sc h, rfl⟩
  · cases hq

def Ctx.kd (C : Ctx) (t : TypeId) : Option TK := (C.ti t).map fun i => i.kind
theorem kind_ok {t : TypeId} {kd : TK} (h : C.kd t = some kd) : ∃ d, C.P.underlying t = some d ∧ kindOk d kd := by
  unfold Ctx.kd at h
  cases hi : C.ti t with
  | none => rw [hi] at h; cases h
  | some i =>
    rw [hi] at h
    simp only [Option.map_some, Option.some.injEq] at h
    obtain ⟨d, h1, _, h3⟩ := (C.ok _ _ hi).und
    exact ⟨d, h1, h ▸ h3⟩

/-- a pointer beside nil -/
def vPtr (C : Ctx) (op : BinOp) (t : TypeId) (p q : Bool) (K : AV → Prop) : Prop := match C.kd t, p || q, op with
  | some (.ptr _), true, .eql => K (bv (p && q))
  | some (.ptr _), true, .neq => K (bv (!(p && q)))
  | _, _, _ => False
def vStr (op : BinOp) (s t : ByteArray) (K : AV → Prop) : Prop := match op with
  | .add => s.size + t.size ≤ 9223372036854775807 ∧ K (sv (s ++ t))
  | .eql => K (bv (s.toList == t.toList))
  | .neq => K (bv (!(s.toList == t.toList)))
  | _ => False
def vBool (C : Ctx) (op : BinOp) (t : TypeId) (a b : Bool) (K : AV → Prop) : Prop := match C.kd t, op with
  | some .bool, .eql => K (bv (a == b))
  | some .bool, .neq => K (bv (a != b))
  | _, _ => False
def vBin (C : Ctx) (op : BinOp) (t : TypeId) (x y : AV) (K : AV → Prop) : Prop := match x, y with
  | .cv (.sc (.bool a)), .cv (.sc (.bool b)) => vBool C op t a b K
  | .cv (.sc (.int k a)), .cv (.sc (.int k' b)) => ck (decide (k = k')) <| vInt op k a b K
  | .cv (.sc (.string s)), .cv (.sc (.string t)) => vStr op s t K
  | x, y => match ptrNil x, ptrNil y with
    | some p, some q => vPtr C op t p q K
    | _, _ => False
def vBinop (C : Ctx) (op : BinOp) (t : TypeId) (x y : AV) (K : Eff → Prop) : Prop := vBin C op t x y fun v => K ⟨v, [], [], []⟩

theorem bin_base {nx : Nat} {K : Eff → Prop} {op : BinOp} {t ty : TypeId} {x y : Operand} (ho : o.op = .binOp op t x y ty) {v : AV} (hk : K ⟨v, [], [], []⟩)
    (g : ∀ E (a : Act) w, RepA w E (ev T x) (a.eval x) → RepA w E (ev T y) (a.eval y) → ∃ u, (eqGuard op t x y (a.eval x) (a.eval y)).run C.P w = .ok () w ∧ (binOp op t (a.eval x) (a.eval y)).run C.P w = .ok u w ∧ RepA w E v u ∧ (eqGuard op t x y (a.eval x) (a.eval y)).events C.P w #[] = #[] ∧ (binOp op t (a.eval x) (a.eval y)).events C.P w #[] = #[]) : Does C o N T H nx K := by
  have mx : x ∈ o.op.operands := by simp [ho, Op.operands]
  have my : y ∈ o.op.operands := by simp [ho, Op.operands]
  refine does_val hk fun T' H' h1 _ E a w ht _ => ?_
  obtain ⟨u, hg, hu, hr, e1, e2⟩ := g E a w (rep_at ht (h1 x mx) rfl) (rep_at ht (h1 y my) rfl)
  refine ⟨u, w, ?_, rfl, hr, .nil ?_⟩
  · simp only [execOp, ho]
    rw [Sem.run_bind, Sem.run_bind, hg]
    simp only [Result.andThen_ok]
    rw [hu]; rfl
  · simp only [execOp, ho, Sem.events_bind, Sem.run_bind, hg, e1, Result.evThen_ok, Result.andThen_ok, hu, e2, Sem.events_pure]
theorem bin_sc {nx : Nat} {K : Eff → Prop} {op : BinOp} {t ty : TypeId} {x y : Operand} (ho : o.op = .binOp op t x y ty) {v p q : Value} (hv : oneV v = true) (hk : K ⟨.cv (.sc v), [], [], []⟩) (hx : ev T x = .cv (.sc p)) (hy : ev T y = .cv (.sc q))
    (hg : ∀ w, (eqGuard op t x y p q).run C.P w = .ok () w) (g : ∀ w, (binOp op t p q).run C.P w = .ok v w) (he : ∀ w, (eqGuard op t x y p q).events C.P w #[] = #[] ∧ (binOp op t p q).events C.P w #[] = #[]) : Does C o N T H nx K :=
  bin_base ho hk fun E a w rx ry => by
    rw [hx] at rx; rw [hy] at ry
    rw [rep_sc rx, rep_sc ry]
    exact ⟨v, hg w, g w, .cv _ _ (.sc _ hv), he w⟩
theorem vInt_ok {nx : Nat} {K : Eff → Prop} {op : BinOp} {t ty : TypeId} {x y : Operand} (ho : o.op = .binOp op t x y ty) {k : IntKind} {i j : Int} (hx : ev T x = iv k i) (hy : ev T y = iv k j) (h : vInt op k i j fun v => K ⟨v, [], [], []⟩) : Does C o N T H nx K := by
  have go : ∀ {v : Value}, oneV v = true → K ⟨.cv (.sc v), [], [], []⟩ → (∀ w, (binOp op t (.int k i) (.int k j)).run C.P w = .ok v w) → Does C o N T H nx K := fun hv hk g =>
    bin_sc ho hv hk hx hy (fun w => by unfold eqGuard; cases op <;> rfl) g fun w => ⟨guard_int_ev, int_ev⟩
  cases op <;> simp only [vInt] at h
  case add => obtain ⟨z, hz, h⟩ := h; exact go rfl h fun w => by simp [binOp, Op.intArith, hz]
  case sub => obtain ⟨z, hz, h⟩ := h; exact go rfl h fun w => by simp [binOp, Op.intArith, hz]
  case mul => obtain ⟨z, hz, h⟩ := h; exact go rfl h fun w => by simp [binOp, Op.intArith, hz]
  case quo => obtain ⟨h0, z, hz, h⟩ := h; exact go rfl h fun w => by simp [binOp, Op.intDiv, hz, h0]
  case rem => obtain ⟨h0, z, hz, h⟩ := h; exact go rfl h fun w => by simp [binOp, Op.intDiv, hz, h0]
  case eql => exact go rfl h fun w => by simp only [binOp, Op.intCmp, ne_eq, not_true_eq_false, if_false]; rfl
  case neq =>
    refine go rfl h fun w => ?_
    have : (i != j) = decide (i ≠ j) := by by_cases e : i = j <;> simp [e]
    rw [← this]; simp only [binOp, Op.intCmp, ne_eq, not_true_eq_false, if_false]; rfl
  case lss => exact go rfl h fun w => by simp [binOp, Op.intCmp]
  case leq => exact go rfl h fun w => by simp [binOp, Op.intCmp]
  case gtr => exact go rfl h fun w => by simp [binOp, Op.intCmp]
  case geq => exact go rfl h fun w => by simp [binOp, Op.intCmp]
  all_goals obtain ⟨z, hz, h⟩ := h; exact go rfl h fun w => by simpa [binOp] using hz C.P w
theorem vStr_ok {nx : Nat} {K : Eff → Prop} {op : BinOp} {t ty : TypeId} {x y : Operand} (ho : o.op = .binOp op t x y ty) {r s : ByteArray} (hx : ev T x = sv r) (hy : ev T y = sv s) (h : vStr op r s fun v => K ⟨v, [], [], []⟩) : Does C o N T H nx K := by
  have go : ∀ {v : Value}, oneV v = true → K ⟨.cv (.sc v), [], [], []⟩ → (∀ w, (binOp op t (.string r) (.string s)).run C.P w = .ok v w) → Does C o N T H nx K := fun hv hk g =>
    bin_sc ho hv hk hx hy (fun w => by unfold eqGuard; cases op <;> rfl) g fun w => ⟨guard_str_ev, str_ev⟩
  cases op <;> simp only [vStr] at h
  case add =>
    refine go rfl h.2 fun w => ?_
    have := h.1
    simp only [binOp, Op.stringOp]
    rw [if_neg (by rw [show IntKind.i64.max = 9223372036854775807 from rfl]; omega)]; rfl
  case eql => exact go rfl h fun w => by simp [binOp, Op.stringOp]
  case neq => exact go rfl h fun w => by simp [binOp, Op.stringOp]
  all_goals exact h.elim
theorem vPtr_ok {nx : Nat} {K : Eff → Prop} {op : BinOp} {t ty : TypeId} {x y : Operand} (ho : o.op = .binOp op t x y ty) {p q : Bool} (hx : ptrNil (ev T x) = some p) (hy : ptrNil (ev T y) = some q) (h : vPtr C op t p q fun v => K ⟨v, [], [], []⟩) : Does C o N T H nx K := by
  have key : ∀ {e : TypeId} (hk : C.kd t = some (.ptr e)) (hpq : (p || q) = true) (a b : Option Addr) w, a.isNone = p → b.isNone = q → (Op.equal t (.pointer a) (.pointer b)).run C.P w = .ok (p && q) w := fun hk hpq a b w ha hb => by
    obtain ⟨d, u, rfl⟩ := kind_ok hk
    cases a <;> cases b <;> simp at ha hb <;> subst ha <;> subst hb <;> simp at hpq <;> (unfold Op.equal; rw [show Op.maxDepth = 9999 + 1 from rfl]; unfold Op.equalIn; rw [Sem.run_bind, run_underlying u]; rfl)
  have key2 : ∀ {e : TypeId} (hk : C.kd t = some (.ptr e)) (hpq : (p || q) = true) (a b : Option Addr) w, a.isNone = p → b.isNone = q → (Op.equal t (.pointer a) (.pointer b)).events C.P w #[] = #[] := fun hk hpq a b w ha hb => by
    obtain ⟨d, u, rfl⟩ := kind_ok hk
    cases a <;> cases b <;> simp at ha hb <;> subst ha <;> subst hb <;> simp at hpq <;> (unfold Op.equal; rw [show Op.maxDepth = 9999 + 1 from rfl]; unfold Op.equalIn; rw [Sem.events_bind, run_underlying u, events_underlying]; rfl)
  unfold vPtr at h
  split at h
  · rename_i e1 e2
    refine bin_base ho h fun E a w rx ry => ?_
    obtain ⟨a1, ea, na⟩ := ptrNil_rep rx hx
    obtain ⟨b1, eb, nb⟩ := ptrNil_rep ry hy
    rw [ea, eb]
    refine ⟨.bool (p && q), by unfold eqGuard; rfl, ?_, .cv _ _ (.sc _ rfl), by unfold eqGuard; rfl, ?_⟩
    · simp only [binOp]
      rw [Sem.run_bind, key e1 e2 _ _ w na nb]; rfl
    · simp only [binOp]
      rw [Sem.events_bind, key e1 e2 _ _ w na nb, key2 e1 e2 _ _ w na nb]; rfl
  · rename_i e1 e2
    refine bin_base ho h fun E a w rx ry => ?_
    obtain ⟨a1, ea, na⟩ := ptrNil_rep rx hx
    obtain ⟨b1, eb, nb⟩ := ptrNil_rep ry hy
    rw [ea, eb]
    refine ⟨.bool (!(p && q)), by unfold eqGuard; rfl, ?_, .cv _ _ (.sc _ rfl), by unfold eqGuard; rfl, ?_⟩
    · simp only [binOp]
      rw [Sem.run_bind, key e1 e2 _ _ w na nb]; rfl
    · simp only [binOp]
      rw [Sem.events_bind, key e1 e2 _ _ w na nb, key2 e1 e2 _ _ w na nb]; rfl
  · exact h.elim
theorem vBool_ok {nx : Nat} {K : Eff → Prop} {op : BinOp} {t ty : TypeId} {x y : Operand} (ho : o.op = .binOp op t x y ty) {a b : Bool} (hx : ev T x = bv a) (hy : ev T y = bv b) (h : vBool C op t a b fun v => K ⟨v, [], [], []⟩) : Does C o N T H nx K := by
  have key : ∀ (hk : C.kd t = some .bool) w, (Op.equal t (.bool a) (.bool b)).run C.P w = .ok (a == b) w := fun hk w => by
    obtain ⟨d, e, rfl⟩ := kind_ok hk
    unfold Op.equal; rw [show Op.maxDepth = 9999 + 1 from rfl]; unfold Op.equalIn; rw [Sem.run_bind, run_underlying e]; rfl
  have key2 : ∀ (hk : C.kd t = some .bool) w, (Op.equal t (.bool a) (.bool b)).events C.P w #[] = #[] := fun hk w => by
    obtain ⟨d, e, rfl⟩ := kind_ok hk
    unfold Op.equal; rw [show Op.maxDepth = 9999 + 1 from rfl]; unfold Op.equalIn; rw [Sem.events_bind, run_underlying e, events_underlying]; rfl
  unfold vBool at h
  split at h
  · rename_i e1
    refine bin_sc ho rfl h hx hy (fun w => by unfold eqGuard; rfl) (fun w => ?_) fun w => ⟨by unfold eqGuard; rfl, ?_⟩
    · simp only [binOp]
      rw [Sem.run_bind, key e1 w]; rfl
    · simp only [binOp]
      rw [Sem.events_bind, key e1 w, key2 e1 w]; rfl
  · rename_i e1
    refine bin_sc ho rfl h hx hy (fun w => by unfold eqGuard; rfl) (fun w => ?_) fun w => ⟨by unfold eqGuard; rfl, ?_⟩
    · simp only [binOp]
      rw [Sem.run_bind, key e1 w]; rfl
    · simp only [binOp]
      rw [Sem.events_bind, key e1 w, key2 e1 w]; rfl
  · exact h.elim
theorem vBinop_ok {nx : Nat} {K : Eff → Prop} {op : BinOp} {t ty : TypeId} {x y : Operand} (ho : o.op = .binOp op t x y ty) (h : vBinop C op t (ev T x) (ev T y) K) : Does C o N T H nx K := by
  unfold vBinop vBin at h
  split at h
  · rename_i hx hy
    exact vBool_ok ho hx hy h
  · rename_i hx hy
    replace h := ck_out h
    obtain ⟨hk, h⟩ := h
    obtain rfl := of_decide_eq_true hk
    exact vInt_ok ho hx hy h
  · rename_i hx hy
    exact vStr_ok ho hx hy h
  · split at h
    · rename_i h1 h2
      exact vPtr_ok ho h1 h2 h
    · exact h.elim

/-- an interface beside the word nil -/
def ifcNil : AV → Option Bool
  | .ifc _ _ => some false
  | .cv (.ifc _ _) => some false
  | .cv (.sc .nilIface) => some true
  | _ => none
theorem ifcNil_rep {w : World} {E : Emb} {x : AV} {u : Value} {q : Bool} (h : RepA w E x u) (hq : ifcNil x = some q) : (u = .nilIface ∧ q = true) ∨ (∃ t v, u = .iface t v) ∧ q = false := by
  unfold ifcNil at hq
  split at hq
  · cases hq; obtain ⟨v, e, _⟩ := rep_ifc h; exact .inr ⟨⟨_, v, e⟩, rfl⟩
  · cases hq; cases h with | cv _ _ h => cases h with | ifc _ _ v _ => exact .inr ⟨⟨_, v, rfl⟩, rfl⟩
  · cases hq; exact .inl ⟨rep_sc h, rfl⟩
  · cases hq
def vNilI (C : Ctx) (op : BinOp) (t : TypeId) (x : AV) (K : Eff → Prop) : Prop := match C.kd t, ifcNil x, op with
  | some .iface, some q, .eql => K ⟨bv q, [], [], []⟩
  | some .iface, some q, .neq => K ⟨bv (!q), [], [], []⟩
  | _, _, _ => False
theorem vNilI_ok {nx : Nat} {K : Eff → Prop} {op : BinOp} {t ty : TypeId} {x : Operand} (ho : o.op = .binOp op t x (.const .nilIface) ty) (h : vNilI C op t (ev T x) K) : Does C o N T H nx K := by
  have key : ∀ (hk : C.kd t = some .iface) (q : Bool) (u : Value) (w : World), ((u = .nilIface ∧ q = true) ∨ (∃ t v, u = .iface t v) ∧ q = false) → (Op.equal t u .nilIface).run C.P w = .ok q w := fun hk q u w hu => by
    obtain ⟨d, e, m, rfl⟩ := kind_ok hk
    rcases hu with ⟨rfl, rfl⟩ | ⟨⟨_, _, rfl⟩, rfl⟩ <;> (unfold Op.equal; rw [show Op.maxDepth = 9999 + 1 from rfl]; unfold Op.equalIn; rw [Sem.run_bind, run_underlying e]; rfl)
  have guard : ∀ (u : Value) (q : Bool) (w : World), ((u = .nilIface ∧ q = true) ∨ (∃ t v, u = .iface t v) ∧ q = false) → (eqGuard op t x (.const .nilIface) u .nilIface).run C.P w = .ok () w := fun u q w hu => by
    rcases hu with ⟨rfl, rfl⟩ | ⟨⟨_, _, rfl⟩, rfl⟩ <;> (unfold eqGuard; cases op <;> simp <;> rfl)
  have key2 : ∀ (hk : C.kd t = some .iface) (q : Bool) (u : Value) (w : World), ((u = .nilIface ∧ q = true) ∨ (∃ t v, u = .iface t v) ∧ q = false) → (Op.equal t u .nilIface).events C.P w #[] = #[] := fun hk q u w hu => by
    obtain ⟨d, e, m, rfl⟩ := kind_ok hk
    rcases hu with ⟨rfl, rfl⟩ | ⟨⟨_, _, rfl⟩, rfl⟩ <;> (unfold Op.equal; rw [show Op.maxDepth = 9999 + 1 from rfl]; unfold Op.equalIn; rw [Sem.events_bind, run_underlying e, events_underlying]; rfl)
  have guard2 : ∀ (u : Value) (q : Bool) (w : World), ((u = .nilIface ∧ q = true) ∨ (∃ t v, u = .iface t v) ∧ q = false) → (eqGuard op t x (.const .nilIface) u .nilIface).events C.P w #[] = #[] := fun u q w hu => by
    rcases hu with ⟨rfl, rfl⟩ | ⟨⟨_, _, rfl⟩, rfl⟩ <;> (unfold eqGuard; cases op <;> simp <;> rfl)
  unfold vNilI at h
  split at h
  · rename_i q e1 e2
    refine bin_base ho h fun E a w rx _ => ?_
    have hu := ifcNil_rep rx e2
    have hb : binOp .eql t (a.eval x) (a.eval (.const .nilIface)) = (do pure (.bool (← Op.equal t (a.eval x) .nilIface))) := by
      rcases hu with ⟨e, _⟩ | ⟨⟨_, _, e⟩, _⟩ <;> rw [e] <;> rfl
    refine ⟨.bool q, guard _ _ w hu, ?_, .cv _ _ (.sc _ rfl), guard2 _ _ w hu, ?_⟩
    · rw [hb, Sem.run_bind, key e1 q _ w hu]; rfl
    · rw [hb, Sem.events_bind, key e1 q _ w hu, key2 e1 q _ w hu]; rfl
  · rename_i q e1 e2
    refine bin_base ho h fun E a w rx _ => ?_
    have hu := ifcNil_rep rx e2
    have hb : binOp .neq t (a.eval x) (a.eval (.const .nilIface)) = (do pure (.bool (!(← Op.equal t (a.eval x) .nilIface)))) := by
      rcases hu with ⟨e, _⟩ | ⟨⟨_, _, e⟩, _⟩ <;> rw [e] <;> rfl
    refine ⟨.bool (!q), guard _ _ w hu, ?_, .cv _ _ (.sc _ rfl), guard2 _ _ w hu, ?_⟩
    · rw [hb, Sem.run_bind, key e1 q _ w hu]; rfl
    · rw [hb, Sem.events_bind, key e1 q _ w hu, key2 e1 q _ w hu]; rfl
  · exact h.elim

def vUn (op : UnOp) (x : AV) (K : Eff → Prop) : Prop := match op, x with
  | .not, .cv (.sc (.bool q)) => K ⟨bv (!q), [], [], []⟩
  | .neg, .cv (.sc (.int k n)) => ∃ z, k.wrap (0 - n) = z ∧ K ⟨iv k z, [], [], []⟩
  | _, _ => False
theorem vUn_ok {nx : Nat} {K : Eff → Prop} {op : UnOp} {t : TypeId} {x : Operand} (ho : o.op = .unOp op t x) (h : vUn op (ev T x) K) : Does C o N T H nx K := by
  have mx : x ∈ o.op.operands := by simp [ho, Op.operands]
  unfold vUn at h
  split at h
  · rename_i q hx
    exact does_val h fun T' H' h1 _ E a w ht _ => ⟨_, w, by have := rep_sc (rep_at ht (h1 x mx) hx); simp only [execOp, ho, this, Op.unary]; rfl, rfl, .cv _ _ (.sc _ rfl), .nil (by have := rep_sc (rep_at ht (h1 x mx) hx); simp [execOp, ho, this, Op.unary])⟩
  · rename_i k n hx
    obtain ⟨z, hz, h⟩ := h
    exact does_val h fun T' H' h1 _ E a w ht _ => ⟨.int k z, w, by have := rep_sc (rep_at ht (h1 x mx) hx); simp only [execOp, ho, this, Op.unary, Op.intArith, hz]; rfl, rfl, .cv _ _ (.sc _ rfl), .nil (by have := rep_sc (rep_at ht (h1 x mx) hx); simp [execOp, ho, this, Op.unary, Op.intArith])⟩
  · exact h.elim

/-- a conversion of whole numbers, or of a string to itself -/
def vConv (C : Ctx) (src dst : TypeId) (x : AV) (K : Eff → Prop) : Prop := match C.kd src, C.kd dst, x with
  | some (.int _), some (.int k), .cv (.sc (.int _ n)) => ∃ z, k.wrap n = z ∧ K ⟨iv k z, [], [], []⟩
  | some .str, some .str, .cv (.sc (.string s)) => K ⟨sv s, [], [], []⟩
  | _, _, _ => False
theorem vConv_ok {nx : Nat} {K : Eff → Prop} {src dst : TypeId} {x : Operand} (ho : o.op = .convert src dst x) (h : vConv C src dst (ev T x) K) : Does C o N T H nx K := by
  have mx : x ∈ o.op.operands := by simp [ho, Op.operands]
  unfold vConv at h
  split at h
  · rename_i k1 k2 k3 n e1 e2 hx
    obtain ⟨z, hz, h⟩ := h
    obtain ⟨_, u1, rfl⟩ := kind_ok e1
    obtain ⟨_, u2, rfl⟩ := kind_ok e2
    exact does_val h fun T' H' h1 _ E a w ht _ => ⟨.int k2 z, w, by have := rep_sc (rep_at ht (h1 x mx) hx); simp [execOp, ho, this, convert, underlying, u1, u2, Conv.intToInt, hz], rfl, .cv _ _ (.sc _ rfl), .nil (by have := rep_sc (rep_at ht (h1 x mx) hx); simp [execOp, ho, this, convert, underlying, u1, u2, Conv.intToInt])⟩
  · rename_i s e1 e2 hx
    obtain ⟨_, u1, rfl⟩ := kind_ok e1
    obtain ⟨_, u2, rfl⟩ := kind_ok e2
    exact does_val h fun T' H' h1 _ E a w ht _ => ⟨.string s, w, by have := rep_sc (rep_at ht (h1 x mx) hx); simp [execOp, ho, this, convert, underlying, u1, u2], rfl, .cv _ _ (.sc _ rfl), .nil (by have := rep_sc (rep_at ht (h1 x mx) hx); simp [execOp, ho, this, convert, underlying, u1, u2])⟩
  · exact h.elim

def vExt (x : AV) (ix : Nat) (K : Eff → Prop) : Prop := match x with
  | .tup cs => match cs[ix]? with
    | some v => K ⟨v, [], [], []⟩
    | none => False
  | _ => False
theorem vExt_ok {nx : Nat} {K : Eff → Prop} {x : Operand} {ix : Nat} (ho : o.op = .extract x ix) (h : vExt (ev T x) ix K) : Does C o N T H nx K := by
  have mx : x ∈ o.op.operands := by simp [ho, Op.operands]
  unfold vExt at h
  split at h
  · rename_i cs hx
    split at h
    · rename_i v hv
      refine does_val h fun T' H' h1 _ E a w ht _ => ?_
      obtain ⟨vs, e, hs, hr⟩ := rep_tup (rep_at ht (h1 x mx) hx)
      have hlt : ix < vs.size := by rw [hs]; exact (List.getElem?_eq_some_iff.1 hv).1
      refine ⟨vs.getD ix undef, w, ?_, rfl, hr ix v hv, .nil ?_⟩ <;> simp [execOp, ho, e, Instr.extract, hlt, Array.getD_eq_getD_getElem?]
    · exact h.elim
  · exact h.elim

def vIface (C : Ctx) (t : TypeId) (x : AV) (K : Eff → Prop) : Prop := match C.kd t with
  | none | some .iface | some .other => False
  | _ => match x with
    | .cv c => K ⟨.cv (.ifc t c), [], [], []⟩
    | .any => False
    | x => K ⟨.ifc t x, [], [], []⟩
theorem vIface_ok {nx : Nat} {K : Eff → Prop} {t : TypeId} {x : Operand} (ho : o.op = .makeInterface t x) (h : vIface C t (ev T x) K) : Does C o N T H nx K := by
  have mx : x ∈ o.op.operands := by simp [ho, Op.operands]
  have run : ∀ kd, C.kd t = some kd → kd ≠ .iface → kd ≠ .other → ∀ (a : Act) w, (execOp a.eval o).run C.P w = .ok (.value (.iface t (a.eval x))) w := fun kd hk n1 n2 a w => by
    obtain ⟨d, u, kk⟩ := kind_ok hk
    simp only [execOp, ho, Instr.makeInterface, Sem.run_bind, run_underlying u, Result.andThen_ok]
    cases d <;> first
      | rfl
      | (exfalso; cases kd <;> simp [kindOk] at kk <;> first | exact n1 rfl | exact n2 rfl)
  have evs : ∀ kd, C.kd t = some kd → kd ≠ .iface → kd ≠ .other → ∀ (a : Act) w, (execOp a.eval o).events C.P w #[] = #[] := fun kd hk n1 n2 a w => by
    obtain ⟨d, u, kk⟩ := kind_ok hk
    simp only [execOp, ho, Instr.makeInterface, Sem.events_bind, Sem.run_bind, run_underlying u, events_underlying, Result.andThen_ok, Result.evThen_ok]
    cases d <;> first
      | rfl
      | (exfalso; cases kd <;> simp [kindOk] at kk <;> first | exact n1 rfl | exact n2 rfl)
  unfold vIface at h
  split at h
  · exact h.elim
  · exact h.elim
  · exact h.elim
  · rename_i k n1 n2 n3
    have run : ∀ (a : Act) w, (execOp a.eval o).run C.P w = .ok (.value (.iface t (a.eval x))) w := by
      cases hk : C.kd t with
      | none => exact (n1 hk).elim
      | some kd => exact run kd hk (fun e => n2 (e ▸ hk)) (fun e => n3 (e ▸ hk))
    have evs : ∀ (a : Act) w, (execOp a.eval o).events C.P w #[] = #[] := by
      cases hk : C.kd t with
      | none => exact (n1 hk).elim
      | some kd => exact evs kd hk (fun e => n2 (e ▸ hk)) (fun e => n3 (e ▸ hk))
    split at h
    · rename_i c hx
      refine does_val h fun T' H' h1 _ E a w ht _ => ⟨_, w, run a w, rfl, ?_, .nil (evs a w)⟩
      have := rep_at ht (h1 x mx) hx
      cases this with | cv _ _ hc => exact .cv _ _ (.ifc _ _ _ hc)
    · exact h.elim
    · exact does_val h fun T' H' h1 _ E a w ht _ => ⟨_, w, run a w, rfl, .ifc _ _ _ (rep_at ht (h1 x mx) rfl), .nil (evs a w)⟩

def vFunc (f : Fn) (fs cs : List AV) (K : Eff → Prop) : Prop := K ⟨.fn f fs cs, [], [], []⟩
theorem vFunc_ok {nx : Nat} {K : Eff → Prop} {f : Fn} {fs cs : Array Operand} (ho : o.op = .makeFunc f fs cs) (h : vFunc f (fs.toList.map (ev T)) (cs.toList.map (ev T)) K) : Does C o N T H nx K := by
  refine does_val h fun T' H' h1 _ E a w ht _ => ⟨.func f (fs.map a.eval) (cs.map a.eval), w, by simp [execOp, ho, Instr.makeFunc], rfl, .fn _ _ _ _ _ (by simp) (by simp) (fun k x hx => ?_) (fun k x hx => ?_), .nil (by simp [execOp, ho, Instr.makeFunc])⟩
  · simp only [List.getElem?_map, Option.map_eq_some_iff] at hx
    obtain ⟨p, hp, rfl⟩ := hx
    have hp : fs[k]? = some p := by simpa using hp
    rw [Array.getD_eq_getD_getElem?, Array.getElem?_map, hp]
    exact rep_at ht (h1 p (by rw [ho]; simp only [Op.operands, Array.mem_append]; exact .inl (Array.mem_of_getElem? hp))) rfl
  · simp only [List.getElem?_map, Option.map_eq_some_iff] at hx
    obtain ⟨p, hp, rfl⟩ := hx
    have hp : cs[k]? = some p := by simpa using hp
    rw [Array.getD_eq_getD_getElem?, Array.getElem?_map, hp]
    exact rep_at ht (h1 p (by rw [ho]; simp only [Op.operands, Array.mem_append]; exact .inr (Array.mem_of_getElem? hp))) rfl

/-- a pointer, an interface's value or a function that is there -/
def vNil (x : AV) (K : Eff → Prop) : Prop := match x with
  | .ptr .. | .cv (.rp _) => K ⟨x, [], [], []⟩
  | .cv (.sc (.func (.func _) _ _)) => K ⟨x, [], [], []⟩
  | .fn (.func _) _ _ => K ⟨x, [], [], []⟩
  | _ => False
theorem vNil_ok {nx : Nat} {K : Eff → Prop} {x : Operand} (ho : o.op = .nilCheck x) (h : vNil (ev T x) K) : Does C o N T H nx K := by
  have mx : x ∈ o.op.operands := by simp [ho, Op.operands]
  unfold vNil at h
  split at h
  · rename_i hx
    refine does_val h fun T' H' h1 _ E a w ht _ => ?_
    have r := rep_at ht (h1 x mx) hx
    obtain ⟨_, e⟩ := rep_ptr r
    exact ⟨_, w, by simp [execOp, ho, e]; rfl, rfl, by rw [hx]; rw [e] at r; exact r, .nil (by simp [execOp, ho, e])⟩
  · rename_i hx
    refine does_val h fun T' H' h1 _ E a w ht _ => ?_
    have r := rep_at ht (h1 x mx) hx
    obtain ⟨p, vs, e, _⟩ := rep_rp r
    exact ⟨_, w, by simp [execOp, ho, e]; rfl, rfl, by rw [hx]; rw [e] at r; exact r, .nil (by simp [execOp, ho, e])⟩
  · rename_i hx
    refine does_val h fun T' H' h1 _ E a w ht _ => ?_
    have r := rep_at ht (h1 x mx) hx
    have e := rep_sc r
    exact ⟨_, w, by simp [execOp, ho, e]; rfl, rfl, by rw [hx]; rw [e] at r; exact r, .nil (by simp [execOp, ho, e])⟩
  · rename_i hx
    refine does_val h fun T' H' h1 _ E a w ht _ => ?_
    have r := rep_at ht (h1 x mx) hx
    rw [hx]
    cases hu : a.eval x <;> rw [hu] at r <;> cases r
    exact ⟨_, w, by simp [execOp, ho, hu]; rfl, rfl, by constructor <;> assumption, .nil (by simp [execOp, ho, hu])⟩
  · exact h.elim
end
end Go.Proofs.YtdjoodbidcncaaaGreatDoor.AW

/- Operations: cells made, read, written; addresses. -/
namespace Go.Proofs.YtdjoodbidcncaaaGreatDoor.AW
open Go

section
variable {C : Ctx} {o : Oper} {N : Nat} {T : Nat → AV} {H : Nat → Option Block}

theorem plain_new {w : World} {cells : Array Value} {ty : TypeId} : Plain { w with heap := w.heap.push (.cells cells ty) } w.heap.size cells := ⟨ty, 0, 0, by simp, fun _ _ => by omega⟩
theorem push_old {w : World} {x : Obj} {r : Nat} (h : r < w.heap.size) : ({ w with heap := w.heap.push x } : World).heap[r]? = w.heap[r]? := by
  simp only [Array.getElem?_push]; rw [if_neg (by omega)]

/-- a box is made -/
theorem does_box {nx : Nat} {K : Eff → Prop} {cs : List AV} (hk : K ⟨.ptr nx cs.length 0 0, [(nx, some (.box cs))], [nx], []⟩)
    (h : ∀ T', (∀ x ∈ o.op.operands, ev T' x = ev T x) → ∀ E a w, TInv N E T' a w → ∃ (cells : Array Value) (ty : TypeId), (execOp a.eval o).run C.P w = .ok (.value (.pointer (some ⟨w.heap.size, 0, none⟩))) { w with heap := w.heap.push (.cells cells ty) } ∧
      cells.size = cs.length ∧ (∀ k x, cs[k]? = some x → RepA w E x (cells.getD k undef)) ∧ (execOp a.eval o).events C.P w #[] = #[]) : Does C o N T H nx K := by
  refine ⟨_, loc_mk fun T' H' h1 _ E a w ht hh hf => ?_, rfl, hk⟩
  obtain ⟨cells, ty, hr, hs, hc, hev⟩ := h T' h1 E a w ht
  have hn : ¬ E.U nx := hf nx (by simp)
  have nm := Emb.add_nm (r := w.heap.size) (s := cells.size) hn
  have old : ∀ r, r < w.heap.size → ({ w with heap := w.heap.push (.cells cells ty) } : World).heap[r]? = w.heap[r]? := fun r hr => push_old hr
  have pr : ∀ r, E.pr r → ({ w with heap := w.heap.push (.cells cells ty) } : World).heap[r]? = w.heap[r]? := fun r hr => old r (hh.frlt r (hh.prfr r hr))
  have hb : (E.add nx w.heap.size cells.size).blk nx = w.heap.size := by simp [Emb.add]
  obtain ⟨g1, g2⟩ := hh.alloc (B := .box cs) (s := cells.size) hn (by simp) old ⟨rfl, rfl, rfl⟩ ⟨by simp [Emb.add], cells, by rw [hb]; exact plain_new, by simp [Emb.add], by omega, fun k x hx => (hc k x hx).mono (E' := E.add nx w.heap.size cells.size) pr (fun _ h => h) nm⟩
  refine ⟨_, _, E.add nx w.heap.size cells.size, .inl hr, ?_, g1, g2, fun b => by simp [Emb.add, or_comm], .nil hev⟩
  have := RepA.ptr (w := { w with heap := w.heap.push (.cells cells ty) }) (E := E.add nx w.heap.size cells.size) nx cs.length 0 0 (.inl rfl) (by simp [Emb.add])
  rw [hb] at this; simpa using this

def zeroA (i : TI) : List AV := i.zero.map fun v => .cv (.sc v)
/-- an array of cells is kept as a row -/
def rowArr (i : TI) : Bool := match i.kind with
  | .arr n _ => Nat.ble 2 n && Nat.beq i.sz n
  | _ => false
def vAlloc (C : Ctx) (t : TypeId) (nx : Nat) (K : Eff → Prop) : Prop := match C.ti t with
  | some i => match rowArr i with
    | true => K ⟨.ptr nx 1 0 0, [(nx, some (.row 1 (i.zero.map fun v => [CV.sc v])))], [nx], []⟩
    | false => K ⟨.ptr nx (zeroA i).length 0 0, [(nx, some (.box (zeroA i)))], [nx], []⟩
  | none => False
theorem does_rowp {nx : Nat} {K : Eff → Prop} {vs : List Value} (hv : vs.all oneV = true) (hk : K ⟨.ptr nx 1 0 0, [(nx, some (.row 1 (vs.map fun v => [CV.sc v])))], [nx], []⟩)
    (h : ∀ (a : Act) w, ∃ (ty : TypeId), (execOp a.eval o).run C.P w = .ok (.value (.pointer (some ⟨w.heap.size, 0, none⟩))) { w with heap := w.heap.push (.cells vs.toArray ty) } ∧ (execOp a.eval o).events C.P w #[] = #[]) : Does C o N T H nx K := by
  refine ⟨_, loc_mk fun T' H' h1 _ E a w ht hh hf => ?_, rfl, hk⟩
  obtain ⟨ty, hr, hev⟩ := h a w
  have hn : ¬ E.U nx := hf nx (by simp)
  have old : ∀ r, r < w.heap.size → ({ w with heap := w.heap.push (.cells vs.toArray ty) } : World).heap[r]? = w.heap[r]? := fun r hr => push_old hr
  have hb : (E.add nx w.heap.size vs.toArray.size).blk nx = w.heap.size := by simp [Emb.add]
  obtain ⟨g1, g2⟩ := hh.alloc (B := .row 1 (vs.map fun v => [CV.sc v])) (s := vs.toArray.size) hn (by simp) old ⟨rfl, rfl, rfl⟩ (.inr ⟨by simp [Emb.add], vs.toArray, by rw [hb]; exact plain_new, by simp [Emb.add], by simp, fun e he => by obtain ⟨v, _, rfl⟩ := List.mem_map.1 he; rfl, fun i e k x hi hx => by
    simp only [List.getElem?_map, Option.map_eq_some_iff] at hi
    obtain ⟨v, hv1, rfl⟩ := hi
    match k, hx with
    | 0, hx =>
      simp only [List.getElem?_cons_zero, Option.some.injEq] at hx
      subst hx
      have : vs.toArray.getD (i * 1 + 0) undef = v := by simp [Array.getD_eq_getD_getElem?, hv1]
      rw [this]
      exact .sc _ (List.all_eq_true.1 hv v (List.mem_of_getElem? hv1))⟩)
  refine ⟨_, _, E.add nx w.heap.size vs.toArray.size, .inl hr, ?_, g1, g2, fun b => by simp [Emb.add, or_comm], .nil hev⟩
  have := RepA.ptr (w := { w with heap := w.heap.push (.cells vs.toArray ty) }) (E := E.add nx w.heap.size vs.toArray.size) nx 1 0 0 (.inl rfl) (by simp [Emb.add])
  rw [hb] at this; simpa using this
theorem zeroA_rep {w : World} {E : Emb} {i : TI} (h1 : i.zero.all oneV = true) : ∀ k x, (zeroA i)[k]? = some x → RepA w E x (i.zero.toArray.getD k undef) := fun k x hx => by
  simp only [zeroA, List.getElem?_map, Option.map_eq_some_iff] at hx
  obtain ⟨v, hv, rfl⟩ := hx
  have : i.zero.toArray.getD k undef = v := by simp [Array.getD_eq_getD_getElem?, hv]
  rw [this]; exact .cv _ _ (.sc _ (List.all_eq_true.1 h1 v (List.mem_of_getElem? hv)))
theorem vAlloc_ok {nx : Nat} {K : Eff → Prop} {t : TypeId} (ho : o.op = .alloc t) (h : vAlloc C t nx K) : Does C o N T H nx K := by
  unfold vAlloc at h
  split at h
  · rename_i i hi
    split at h
    · refine does_rowp (C.ok _ _ hi).one h fun a w => ?_
      obtain ⟨z, hz, h5⟩ := (C.ok _ _ hi).run_zero w
      refine ⟨t, ?_, ?_⟩ <;> simp only [execOp, ho, Instr.alloc]
      · simp [hz, newVar, newRow, zero_cells h5]
      · simp [hz, newVar, newRow, zero_cells h5]
    · refine does_box h fun T' _ E a w _ => ?_
      obtain ⟨z, hz, h5⟩ := (C.ok _ _ hi).run_zero w
      refine ⟨i.zero.toArray, t, ?_, by simp [zeroA], zeroA_rep (C.ok _ _ hi).one, ?_⟩ <;> simp only [execOp, ho, Instr.alloc]
      · simp [hz, newVar, newRow, zero_cells h5]
      · simp [hz, newVar, newRow, zero_cells h5]
  · exact h.elim

def vBox (x : AV) (nx : Nat) (K : Eff → Prop) : Prop := match cellsA x with
  | some cs => K ⟨.ptr nx cs.length 0 0, [(nx, some (.box cs))], [nx], []⟩
  | none => False
theorem vBox_ok {nx : Nat} {K : Eff → Prop} {t : TypeId} {x : Operand} (ho : o.op = .box t x) (h : vBox (ev T x) nx K) : Does C o N T H nx K := by
  have mx : x ∈ o.op.operands := by simp [ho, Op.operands]
  unfold vBox at h
  split at h
  · rename_i cs hc
    refine does_box h fun T' h1 E a w ht => ?_
    obtain ⟨g1, _, g3⟩ := cells_rep (rep_at ht (h1 x mx) rfl) hc
    exact ⟨(a.eval x).cells, t, by simp [execOp, ho, Instr.box, newVar, newRow], g1, g3, by simp [execOp, ho, Instr.box, newVar, newRow]⟩
  · exact h.elim

/-! a variable read -/
def mkVar (agg : Bool) (cs : List AV) : Option AV := if agg then some (.agg cs) else match cs with
  | [x] => some x
  | _ => none
def vLoadB (i : TI) (b st j k : Nat) : Option Block → (Eff → Prop) → Prop
  | some (.box cs), K => ck (j == 0) <| match mkVar i.agg ((cs.drop k).take i.sz), ((cs.drop k).take i.sz).length == i.sz with
    | some v, true => K ⟨v, [], [], [b]⟩
    | _, _ => False
  | some (.row st' es), K => ck (st == st') <| ∃ e, es[j]? = some e ∧ match mkVar i.agg (((e.drop k).take i.sz).map .cv), ((e.drop k).take i.sz).length == i.sz with
    | some v, true => K ⟨v, [], [], [b]⟩
    | _, _ => False
  | _, _ => False
def vLoad (C : Ctx) (t : TypeId) (x : AV) (H : Nat → Option Block) (K : Eff → Prop) : Prop := match C.ti t, x with
  | some i, .ptr b st j k => vLoadB i b st j k (H b) K
  | some i, .cv (.rp cs) => match mkVar i.agg ((cs.take i.sz).map .cv), (cs.take i.sz).length == i.sz with
    | some v, true => K ⟨v, [], [], []⟩
    | _, _ => False
  | _, _ => False
theorem mkVar_run {w : World} {E : Emb} {i : TI} {t : TypeId} {p : Addr} (hi : TIok C.P t i) (hp : p.spot = none) {cs : List AV} {v : AV} (hm : mkVar i.agg cs = some v) (hl : cs.length = i.sz) (f : Nat → Value)
    (hc : ∀ k, k < i.sz → cellAt w p.block (p.off + k) = some (f k)) (hr : ∀ k x, cs[k]? = some x → RepA w E x (f k)) : ∃ u, (loadVar t p).run C.P w = .ok u w ∧ RepA w E v u ∧ ∀ e ∈ (loadVar t p).events C.P w #[], CellEv p.block e := by
  have h0 : i.agg = false → i.sz = 1 := fun ha => by
    simp only [mkVar, ha] at hm
    split at hm
    · rename_i h; cases h
    · split at hm
      · exact hl.symm
      · cases hm
  refine ⟨_, run_loadVar hi hp f hc h0, ?_, fun e he => (ev_loadVar hi (fun k hk => ⟨f k, by rw [addr_add' hp]; exact hc k hk⟩) h0 #[] e he).resolve_left (by simp)⟩
  · unfold mkVar at hm
    split at hm
    · rename_i ha
      cases hm
      rw [if_pos ha]
      refine .agg _ _ (by simp [hl]) fun k x hx => ?_
      have hk : k < i.sz := hl ▸ (List.getElem?_eq_some_iff.1 hx).1
      have : ((List.range i.sz).map f).toArray.getD k undef = f k := by simp [Array.getD_eq_getD_getElem?, hk]
      rw [this]; exact hr k x hx
    · rename_i ha
      rw [if_neg ha]
      split at hm
      · cases hm; exact hr 0 _ rfl
      · cases hm
theorem take_drop_get {α : Type} {l : List α} {k n j : Nat} {x : α} (h : ((l.drop k).take n)[j]? = some x) : l[k + j]? = some x ∧ j < n := by
  rw [List.getElem?_take] at h
  split at h
  · rename_i hj; exact ⟨by simpa using h, hj⟩
  · cases h
theorem vLoad_ok {nx : Nat} {K : Eff → Prop} {t : TypeId} {x : Operand} (ho : o.op = .load t x) (h : vLoad C t (ev T x) H K) : Does C o N T H nx K := by
  have mx : x ∈ o.op.operands := by simp [ho, Op.operands]
  have fin : ∀ (a : Act) (w : World) (p : Addr) (u : Value), a.eval x = .pointer (some p) → (loadVar t p).run C.P w = .ok u w → (execOp a.eval o).run C.P w = .ok (.value u) w := fun a w p u e hu => by
    simp only [execOp, ho, e, Instr.loadAt, Instr.sureAddr]
    rw [Sem.run_bind, Sem.run_bind]; simp [hu]
  have fev : ∀ (a : Act) (w : World) (p : Addr), a.eval x = .pointer (some p) → (execOp a.eval o).events C.P w #[] = (loadVar t p).events C.P w #[] := fun a w p e => by
    simp only [execOp, ho, e, Instr.loadAt, Instr.sureAddr]
    simp only [Sem.events_bind, Sem.events_pure, Sem.run_pure, Result.evThen_ok]
    exact evThen_last _ _
  unfold vLoad at h
  split at h
  · rename_i i b st j k hi hx
    unfold vLoadB at h
    split at h
    · rename_i cs hb
      replace h := ck_out h
      obtain ⟨hj, h⟩ := h
      have hj : j = 0 := by simpa using hj
      split at h
      · rename_i v hm hl
        have hl : ((cs.drop k).take i.sz).length = i.sz := by simpa using hl
        refine does_val h fun T' H' h1 h2 E a w ht hh => ?_
        obtain ⟨hU, e⟩ := rep_ptr (rep_at ht (h1 x mx) hx)
        obtain ⟨hg, cells, p, hs, hle, hc⟩ := hh.hp b _ ((h2 b (by simp)).trans hb)
        have hlen : k + i.sz ≤ cs.length ∨ i.sz = 0 := by simp only [List.length_take, List.length_drop] at hl; omega
        obtain ⟨u, hu, hr⟩ := mkVar_run (C := C) (w := w) (E := E) (C.ok _ _ hi) (p := ⟨E.blk b, j * st + k, none⟩) rfl hm hl (fun q => cells.getD (k + q) undef) (fun q hq => by
            have : k + q < cells.size := by omega
            simp [cellAt, p.cell, hj, Array.getD_eq_getD_getElem?, this]) (fun q y hy => hc _ _ (take_drop_get hy).1)
        exact ⟨u, w, fin a w _ u e hu, rfl, hr.1, by rw [fev a w _ e]; exact .own hU hg p.lt hr.2⟩
      · exact h.elim
    · rename_i st' es hb
      replace h := ck_out h
      obtain ⟨hst, e', he, h⟩ := h
      have hst : st = st' := by simpa using hst
      subst hst
      split at h
      · rename_i v hm hl
        have hl : ((e'.drop k).take i.sz).length = i.sz := by simpa using hl
        refine does_val h fun T' H' h1 h2 E a w ht hh => ?_
        obtain ⟨hU, e⟩ := rep_ptr (rep_at ht (h1 x mx) hx)
        have hg := rep_ptr_g (rep_at ht (h1 x mx) hx)
        obtain ⟨_, cells, p, hs, hle, hel, hc⟩ := (hh.hp b _ ((h2 b (by simp)).trans hb)).resolve_left fun g => rep_ptr_g (rep_at ht (h1 x mx) hx) g.1
        have hlen : k + i.sz ≤ e'.length ∨ i.sz = 0 := by simp only [List.length_take, List.length_drop] at hl; omega
        have hes : e'.length = st := hel _ (List.mem_of_getElem? he)
        have hjl : j < es.length := (List.getElem?_eq_some_iff.1 he).1
        have hjs : j * st + st ≤ es.length * st := by
          have : (j + 1) * st ≤ es.length * st := Nat.mul_le_mul_right _ hjl
          simpa [Nat.succ_mul] using this
        obtain ⟨u, hu, hr⟩ := mkVar_run (C := C) (w := w) (E := E) (C.ok _ _ hi) (p := ⟨E.blk b, j * st + k, none⟩) rfl hm (by simpa using hl) (fun q => cells.getD (j * st + (k + q)) undef) (fun q hq => by
            have : j * st + k + q < cells.size := by omega
            simp [cellAt, p.cell, Array.getD_eq_getD_getElem?, this, ← Nat.add_assoc]) (fun q y hy => by
            simp only [List.getElem?_map, Option.map_eq_some_iff] at hy
            obtain ⟨c, hcq, rfl⟩ := hy
            exact .cv _ _ (hc j e' (k + q) c he (take_drop_get hcq).1))
        exact ⟨u, w, fin a w _ u e hu, rfl, hr.1, by rw [fev a w _ e]; exact .own hU hg p.lt hr.2⟩
      · exact h.elim
    · exact h.elim
  · rename_i i cs hi hx
    split at h
    · rename_i v hm hl
      have hl : (cs.take i.sz).length = i.sz := by simpa using hl
      refine does_val h fun T' H' h1 h2 E a w ht hh => ?_
      obtain ⟨p, vs, e, hsp, hpr, hc, hr⟩ := rep_rp (rep_at ht (h1 x mx) hx)
      have hlen : i.sz ≤ cs.length := by simp only [List.length_take] at hl; omega
      obtain ⟨u, hu, hr⟩ := mkVar_run (C := C) (w := w) (E := E) (C.ok _ _ hi) hsp hm (by simpa using hl) vs (fun q hq => hc q cs[q] (by simp)) (fun q y hy => by
          simp only [List.getElem?_map, Option.map_eq_some_iff] at hy
          obtain ⟨c, hcq, rfl⟩ := hy
          rw [List.getElem?_take] at hcq
          split at hcq
          · exact .cv _ _ (hr q c hcq)
          · cases hcq)
      exact ⟨u, w, fin a w _ u e hu, rfl, hr.1, by rw [fev a w _ e]; exact .ro hpr (hh.frlt _ (hh.prfr _ hpr)) hr.2⟩
    · exact h.elim
  · exact h.elim

/-! a variable written -/
def splice {α : Type} (l : List α) (k : Nat) (cs : List α) : List α := l.take k ++ cs ++ l.drop (k + cs.length)
theorem splice_get {α : Type} {l : List α} {k : Nat} {cs : List α} (hk : k + cs.length ≤ l.length) (q : Nat) : (splice l k cs)[q]? = if q < k then l[q]? else if q < k + cs.length then cs[q - k]? else l[q]? := by
  unfold splice
  have h1 : (l.take k).length = k := by simp; omega
  by_cases a : q < k
  · rw [if_pos a, List.append_assoc, List.getElem?_append_left (by omega), List.getElem?_take, if_pos a]
  · rw [if_neg a]
    by_cases b : q < k + cs.length
    · rw [if_pos b, List.append_assoc, List.getElem?_append_right (by omega), h1, List.getElem?_append_left (by omega)]
    · rw [if_neg b, List.getElem?_append_right (by simp; omega), List.getElem?_drop]
      congr 1; simp; omega
theorem splice_len {α : Type} {l : List α} {k : Nat} {cs : List α} (hk : k + cs.length ≤ l.length) : (splice l k cs).length = l.length := by simp [splice]; omega

def vStoreB (b st j k : Nat) (cs : List AV) : Option Block → (Eff → Prop) → Prop
  | some (.box l), K => ck (j == 0 && decide (k + cs.length ≤ l.length)) <| K ⟨.any, [(b, some (.box (splice l k cs)))], [], [b]⟩
  | some (.row st' es), K => match closeL cs with
    | some c => ck (st == st') <| ∃ e, es[j]? = some e ∧ k + c.length ≤ e.length ∧ K ⟨.any, [(b, some (.row st (es.set j (splice e k c))))], [], [b]⟩
    | none => False
  | _, _ => False
def vStore (C : Ctx) (t : TypeId) (x v : AV) (H : Nat → Option Block) (K : Eff → Prop) : Prop := match C.ti t, x, cellsA v with
  | some i, .ptr b st j k, some cs => ck (cs.length == i.sz) <| vStoreB b st j k cs (H b) K
  | _, _, _ => False
theorem vStore_ok {nx : Nat} {K : Eff → Prop} {t : TypeId} {x v : Operand} (ho : o.op = .store t x v) (h : vStore C t (ev T x) (ev T v) H K) : Does C o N T H nx K := by
  have mx : x ∈ o.op.operands := by simp [ho, Op.operands]
  have mv : v ∈ o.op.operands := by simp [ho, Op.operands]
  unfold vStore at h
  split at h
  · rename_i i b st j k cs hi hx hv
    replace h := ck_out h
    obtain ⟨hsz, h⟩ := h
    have hsz : cs.length = i.sz := by simpa using hsz
    have fin : ∀ (E : Emb) (a : Act) (w : World) (cells : Array Value), a.eval x = .pointer (some ⟨E.blk b, j * st + k, none⟩) → Plain w (E.blk b) cells → j * st + k + cs.length ≤ cells.size → (a.eval v).cells.size = cs.length → (∀ u ∈ (a.eval v).cells.toList, u.oneCell' = true) →
        (execOp a.eval o).run C.P w = .ok .skip (w.setCells (E.blk b) (j * st + k) (a.eval v).cells.toList) := fun E a w cells e p hle hn h1 => by
      have hst := run_stores (P := C.P) p (o := j * st + k) (vs := (a.eval v).cells.toList) (by simpa [hn] using hle) h1
      simp only [execOp, ho, e, Instr.storeAt, Instr.sureAddr]
      rw [Sem.run_bind]
      simp only [Sem.run_bind, Sem.run_pure, Result.andThen_ok, storeVar, (C.ok _ _ hi).run_sizeOf, hn, hsz]
      simp [hst]
    have fev : ∀ (E : Emb) (a : Act) (w : World) (cells : Array Value), a.eval x = .pointer (some ⟨E.blk b, j * st + k, none⟩) → Plain w (E.blk b) cells → j * st + k + cs.length ≤ cells.size → (a.eval v).cells.size = cs.length → (∀ u ∈ (a.eval v).cells.toList, u.oneCell' = true) →
        ∀ ev ∈ (execOp a.eval o).events C.P w #[], CellEv (E.blk b) ev := fun E a w cells e p hle hn h1 ev hev => by
      refine (ev_stores (P := C.P) (a.eval v).cells.toList 0 w cells #[] p (o := j * st + k) (by simpa [hn] using hle) h1 ev ?_).resolve_left (by simp)
      simp only [execOp, ho, e, Instr.storeAt, Instr.sureAddr, storeVar] at hev
      simpa [(C.ok _ _ hi).run_sizeOf, hn, hsz, evThen_last] using hev
    unfold vStoreB at h
    split at h
    · rename_i l hb
      replace h := ck_out h
      obtain ⟨hj, h⟩ := h
      simp only [Bool.and_eq_true, beq_iff_eq, decide_eq_true_eq] at hj
      obtain ⟨hj, hkl⟩ := hj
      refine ⟨_, loc_mk fun T' H' h1 h2 E a w ht hh _ => ?_, rfl, h⟩
      obtain ⟨hU, e⟩ := rep_ptr (rep_at ht (h1 x mx) hx)
      obtain ⟨c1, c2, c3⟩ := cells_rep (rep_at ht (h1 v mv) rfl) hv
      have hb' := (h2 b (by simp)).trans hb
      obtain ⟨hg, cells, p, hs, hle, hc⟩ := hh.hp b _ hb'
      have hrun := fin E a w cells e p (by rw [hj]; omega) c1 c2
      have hev := fev E a w cells e p (by rw [hj]; omega) c1 c2
      obtain ⟨cells', g1, g2, g3, g4, g5, g6⟩ := setCells_heap (E.blk b) (a.eval v).cells.toList (j * st + k) w cells p (by simp [c1, hj]; omega)
      have prk : ∀ r, E.pr r → (w.setCells (E.blk b) (j * st + k) (a.eval v).cells.toList).heap[r]? = w.heap[r]? := fun r hr => g6 r fun er => (hh.un b _ hb').2 hg (hh.prfr _ (er ▸ hr))
      obtain ⟨k1, k2⟩ := hh.store (w' := w.setCells (E.blk b) (j * st + k) (a.eval v).cells.toList) (B' := .box (splice l k cs)) hb' hg g5 g6 (sameIO_setCells _ _ _ _) ⟨hg, cells', g1, by rw [g2, hs], by rw [splice_len hkl, g2]; exact hle, fun q y hy => by
        rw [splice_get hkl] at hy
        simp only [hj, Nat.zero_mul, Nat.zero_add, Array.length_toList, c1] at g3 g4
        split at hy
        · rw [g3 q (by omega)]; exact (hc q y hy).mono prk (fun _ h => h) (fun _ h => ⟨h, rfl, rfl, .rfl⟩)
        · split at hy
          · have := g4 (q - k) (by omega)
            rw [show k + (q - k) = q by omega] at this
            rw [this]
            have := (c3 (q - k) y hy).mono prk (fun _ h => h) (fun _ h => ⟨h, rfl, rfl, .rfl⟩) (E' := E)
            simpa [List.getD, Array.getD_eq_getD_getElem?] using this
          · rw [g3 q (by omega)]; exact (hc q y hy).mono prk (fun _ h => h) (fun _ h => ⟨h, rfl, rfl, .rfl⟩)⟩
      exact ⟨undef, _, E, .inr ⟨hrun, rfl⟩, .any _, k1, k2, fun b => by simp, .own hU hg (g5 ▸ p.lt) hev⟩
    · rename_i st' es hb
      split at h
      · rename_i c hcl
        replace h := ck_out h
        obtain ⟨hst, e', he, hkl, h⟩ := h
        have hst : st = st' := by simpa using hst
        subst hst
        have hcs := closeL_spec hcl
        have hlen : cs.length = c.length := by rw [hcs]; simp
        refine ⟨_, loc_mk fun T' H' h1 h2 E a w ht hh _ => ?_, rfl, h⟩
        obtain ⟨hU, e⟩ := rep_ptr (rep_at ht (h1 x mx) hx)
        obtain ⟨c1, c2, c3⟩ := cells_rep (rep_at ht (h1 v mv) rfl) hv
        have hb' := (h2 b (by simp)).trans hb
        obtain ⟨hg, cells, p, hs, hle, hel, hc⟩ := (hh.hp b _ hb').resolve_left fun g => rep_ptr_g (rep_at ht (h1 x mx) hx) g.1
        have hes : e'.length = st := hel _ (List.mem_of_getElem? he)
        have hjl : j < es.length := (List.getElem?_eq_some_iff.1 he).1
        have hjs : j * st + st ≤ es.length * st := by
          have : (j + 1) * st ≤ es.length * st := Nat.mul_le_mul_right _ hjl
          simpa [Nat.succ_mul] using this
        have hrun := fin E a w cells e p (by omega) c1 c2
        have hev := fev E a w cells e p (by omega) c1 c2
        have hgb := rep_ptr_g (rep_at ht (h1 x mx) hx)
        obtain ⟨cells', g1, g2, g3, g4, g5, g6⟩ := setCells_heap (E.blk b) (a.eval v).cells.toList (j * st + k) w cells p (by simp [c1]; omega)
        simp only [Array.length_toList, c1] at g3 g4
        have prk : ∀ r, E.pr r → (w.setCells (E.blk b) (j * st + k) (a.eval v).cells.toList).heap[r]? = w.heap[r]? := fun r hr => g6 r fun er => (hh.un b _ hb').2 hg (hh.prfr _ (er ▸ hr))
        obtain ⟨k1, k2⟩ := hh.store (w' := w.setCells (E.blk b) (j * st + k) (a.eval v).cells.toList) (B' := .row st (es.set j (splice e' k c))) hb' hg g5 g6 (sameIO_setCells _ _ _ _) (.inr ⟨hg, cells', g1, by rw [g2, hs], by simpa [g2] using hle, fun y hy => by
            rcases List.mem_or_eq_of_mem_set hy with hy | rfl
            · exact hel y hy
            · rw [splice_len hkl, hes], fun q y r z hy hz => by
            rw [List.getElem?_set] at hy
            by_cases eq : j = q
            · subst eq
              rw [if_pos rfl] at hy
              simp only [hjl, if_true, Option.some.injEq] at hy
              subst hy
              rw [splice_get hkl] at hz
              split at hz
              · rw [g3 _ (by omega)]; exact (hc j e' r z he hz).mono prk (fun _ h => h)
              · split at hz
                · have := g4 (r - k) (by omega)
                  rw [show j * st + k + (r - k) = j * st + r by omega] at this
                  rw [this]
                  have r1 : cs[r - k]? = some (.cv z) := by rw [hcs, List.getElem?_map, hz]; rfl
                  have := c3 (r - k) _ r1
                  cases this with
                  | cv _ _ hz' =>
                    have := hz'.mono prk (fun _ h => h) (pr' := E.pr)
                    simpa [List.getD, Array.getD_eq_getD_getElem?] using this
                · rw [g3 _ (by omega)]; exact (hc j e' r z he hz).mono prk (fun _ h => h)
            · rw [if_neg eq] at hy
              have hql : q < es.length := (List.getElem?_eq_some_iff.1 hy).1
              have hrl : r < st := (hel y (List.mem_of_getElem? hy)) ▸ (List.getElem?_eq_some_iff.1 hz).1
              rw [g3 _ (by
                rcases Nat.lt_or_gt_of_ne eq with g | g
                · right
                  have : (j + 1) * st ≤ q * st := Nat.mul_le_mul_right _ g
                  simp only [Nat.succ_mul] at this; omega
                · left
                  have : (q + 1) * st ≤ j * st := Nat.mul_le_mul_right _ g
                  simp only [Nat.succ_mul] at this; omega)]
              exact (hc q y r z hy hz).mono prk (fun _ h => h)⟩)
        exact ⟨undef, _, E, .inr ⟨hrun, rfl⟩, .any _, k1, k2, fun b => by simp, .own hU hgb (g5 ▸ p.lt) hev⟩
      · exact h.elim
    · exact h.elim
  · exact h.elim
end
end Go.Proofs.YtdjoodbidcncaaaGreatDoor.AW

/- Operations: addresses of parts, parts, slices. -/
namespace Go.Proofs.YtdjoodbidcncaaaGreatDoor.AW
open Go

section
variable {C : Ctx} {o : Oper} {N : Nat} {T : Nat → AV} {H : Nat → Option Block}

theorem field_at {s : TypeId} {fs : List (Nat × Nat)} {f off ft : Nat} (hk : C.kd s = some (.strct fs)) (hf : fs[f]? = some (off, ft)) : ∃ F fld, C.P.underlying s = some (.struct F) ∧ F[f]? = some fld ∧ fld.offset = off ∧ fld.type = ft := by
  obtain ⟨d, u, F, rfl, hF⟩ := kind_ok hk
  rw [← hF] at hf
  simp only [List.getElem?_map, Option.map_eq_some_iff, Prod.mk.injEq] at hf
  obtain ⟨fld, h1, h2, h3⟩ := hf
  exact ⟨F, fld, u, by simpa using h1, h2, h3⟩

def vFAddr (C : Ctx) (s : TypeId) (x : AV) (f : Nat) (K : Eff → Prop) : Prop := match C.kd s with
  | some (.strct fs) => match fs[f]? with
    | some (off, ft) => match C.ti ft with
      | some i => ck (i.sz != 0) <| match x with
        | .ptr b st j k => K ⟨.ptr b st j (k + off), [], [], []⟩
        | .cv (.rp cs) => K ⟨.cv (.rp (cs.drop off)), [], [], []⟩
        | _ => False
      | none => False
    | none => False
  | _ => False
theorem vFAddr_ok {nx : Nat} {K : Eff → Prop} {s : TypeId} {x : Operand} {f : Nat} (ho : o.op = .fieldAddr s x f) (h : vFAddr C s (ev T x) f K) : Does C o N T H nx K := by
  have mx : x ∈ o.op.operands := by simp [ho, Op.operands]
  unfold vFAddr at h
  split at h
  · rename_i fs hk
    split at h
    · rename_i off ft hf
      split at h
      · rename_i i hi
        replace h := ck_out h
        obtain ⟨hz, h⟩ := h
        have hz : i.sz ≠ 0 := by simpa using hz
        obtain ⟨F, fld, u, hF, h1, h2⟩ := field_at hk hf
        have run : ∀ (a : Act) (w : World) (p : Addr), a.eval x = .pointer (some p) → (execOp a.eval o).run C.P w = .ok (.value (.pointer (some (p.add off)))) w := fun a w p e => by
          have hs := (C.ok _ _ hi).run_sizeOf w
          simp only [execOp, ho, Instr.fieldAt, e, Sem.run_bind, run_underlying u, Result.andThen_ok, hF, Instr.sureAddr, Sem.run_pure, fieldPlace, h2, hs]
          rw [if_neg hz]
          simp [h1]
        have fev : ∀ (a : Act) (w : World) (p : Addr), a.eval x = .pointer (some p) → (execOp a.eval o).events C.P w #[] = #[] := fun a w p e => by
          have hs := (C.ok _ _ hi).run_sizeOf w
          simp only [execOp, ho, Instr.fieldAt, e, Sem.events_bind, events_underlying, run_underlying u, Result.evThen_ok, hF, Instr.sureAddr, Sem.events_pure, Sem.run_pure, fieldPlace, h2, events_sizeOf, hs]
          simp [hz, h1, fieldPlace, h2, hs, evThen_last]
        split at h
        · rename_i b st j k hx
          refine does_val h fun T' H' g1 _ E a w ht _ => ?_
          have r := rep_at ht (g1 x mx) hx
          obtain ⟨hU, e⟩ := rep_ptr r
          refine ⟨_, w, run a w _ e, rfl, ?_, .nil (fev a w _ e)⟩
          rw [addr_add, Nat.add_assoc]
          exact .ptr b st j (k + off) hU (rep_ptr_g r)
        · rename_i cs hx
          refine does_val h fun T' H' g1 _ E a w ht _ => ?_
          obtain ⟨p, vs, e, g2, g3, g4, g5⟩ := rep_rp (rep_at ht (g1 x mx) hx)
          refine ⟨_, w, run a w _ e, rfl, .cv _ _ ?_, .nil (fev a w _ e)⟩
          rw [addr_add' g2]
          exact .rp _ _ (fun k => vs (off + k)) rfl g3 (fun k y hy => by rw [List.getElem?_drop] at hy; have := g4 _ y hy; rwa [← Nat.add_assoc] at this) (fun k y hy => by rw [List.getElem?_drop] at hy; exact g5 _ y hy)
        · exact h.elim
      · exact h.elim
    · exact h.elim
  · exact h.elim

theorem extract_getD {vs : Array Value} {a n k : Nat} (hk : k < n) (h : a + n ≤ vs.size) : (vs.extract a (a + n)).getD k undef = vs.getD (a + k) undef := by
  simp only [Array.getD_eq_getD_getElem?, Array.getElem?_extract]
  rw [if_pos (by omega)]
/-- a part of a struct's value -/
theorem run_part {E : Emb} {w : World} {i : TI} {t : TypeId} (hi : TIok C.P t i) {vs : Array Value} {cs : List AV} {off : Nat} {v : AV} (hl : ((cs.drop off).take i.sz).length = i.sz) (hm : mkVar i.agg ((cs.drop off).take i.sz) = some v) (hs : vs.size = cs.length)
    (hr : ∀ k x, cs[k]? = some x → RepA w E x (vs.getD k undef)) : ∃ u, (part t vs off).run C.P w = .ok u w ∧ RepA w E v u := by
  have hlen : off + i.sz ≤ cs.length ∨ i.sz = 0 := by simp only [List.length_take, List.length_drop] at hl; omega
  simp only [part, Sem.run_bind, hi.run_isAgg, Result.andThen_ok]
  cases ha : i.agg with
  | true =>
    simp only [mkVar, ha, if_true, Option.some.injEq] at hm
    subst hm
    refine ⟨_, by simp [hi.run_sizeOf]; rfl, .agg _ _ ?_ fun k x hx => ?_⟩
    · rw [hl]
      simp only [Array.size_extract]
      omega
    · obtain ⟨h1, h2⟩ := take_drop_get hx
      rw [extract_getD h2 (by omega)]
      exact hr _ _ h1
  | false =>
    simp only [mkVar, ha] at hm
    split at hm
    · rename_i h; cases h
    · split at hm
      · rename_i y he
        cases hm
        have h1 : ((cs.drop off).take i.sz)[0]? = some v := by rw [he]; rfl
        obtain ⟨h1, h2⟩ := take_drop_get h1
        rw [Nat.add_zero] at h1
        have hlt : off < vs.size := by rw [hs]; exact (List.getElem?_eq_some_iff.1 h1).1
        refine ⟨vs.getD off undef, ?_, hr _ _ h1⟩
        simp [hlt, Array.getD_eq_getD_getElem?]
      · cases hm

def vField (C : Ctx) (s : TypeId) (x : AV) (f : Nat) (K : Eff → Prop) : Prop := match C.kd s, x with
  | some (.strct fs), .agg cs => match fs[f]? with
    | some (off, ft) => match C.ti ft with
      | some i => match mkVar i.agg ((cs.drop off).take i.sz), ((cs.drop off).take i.sz).length == i.sz with
        | some v, true => K ⟨v, [], [], []⟩
        | _, _ => False
      | none => False
    | none => False
  | _, _ => False
theorem vField_ok {nx : Nat} {K : Eff → Prop} {s : TypeId} {x : Operand} {f : Nat} (ho : o.op = .field s x f) (h : vField C s (ev T x) f K) : Does C o N T H nx K := by
  have qo : ∀ ρ, Qt (execOp ρ o) := fun ρ => by simp only [execOp, ho]; exact .bind qt_field fun _ => .pure
  have mx : x ∈ o.op.operands := by simp [ho, Op.operands]
  unfold vField at h
  split at h
  · rename_i fs cs hk hx
    split at h
    · rename_i off ft hf
      split at h
      · rename_i i hi
        split at h
        · rename_i v hm hl
          obtain ⟨F, fld, u, hF, h1, h2⟩ := field_at hk hf
          refine does_valq h qo fun T' H' g1 _ E a w ht _ => ?_
          obtain ⟨vs, e, hs, hr⟩ := rep_agg (rep_at ht (g1 x mx) hx)
          obtain ⟨y, hy, hv⟩ := run_part (C := C) (C.ok _ _ hi) (by simpa using hl) hm hs hr
          refine ⟨y, w, ?_, rfl, hv⟩
          simp only [execOp, ho, Instr.field, e, Sem.run_bind, run_underlying u, Result.andThen_ok, hF, asAgg, Sem.run_pure, h2, h1]
          simp [hy]
        · exact h.elim
      · exact h.elim
    · exact h.elim
  · exact h.elim

/-- a whole number that is a place -/
def AtNat (x : AV) (K : Nat → Prop) : Prop := match x with
  | .cv (.sc (.int _ a)) => ∃ j : Nat, (j : Int) = a ∧ K j
  | _ => False
theorem AtNat.out {x : AV} {K : Nat → Prop} (h : AtNat x K) : ∃ k j, x = .cv (.sc (.int k ((j : Nat) : Int))) ∧ K j := by
  unfold AtNat at h
  split at h
  · obtain ⟨j, rfl, h⟩ := h; exact ⟨_, j, rfl, h⟩
  · exact h.elim

def vIAddr (C : Ctx) (t : TypeId) (x ix : AV) (K : Eff → Prop) : Prop := match C.kd t with
  | some (.slice e) => match C.ti e with
    | some i => AtNat ix fun j => match x with
      | .own b st o n _ => ck (st == i.sz) <| j < n ∧ K ⟨.ptr b st (o + j) 0, [], [], []⟩
      | .cv (.ro st es _) => ck (st == i.sz) <| ∃ e, es[j]? = some e ∧ K ⟨.cv (.rp e), [], [], []⟩
      | _ => False
    | none => False
  | some (.arr n e) => match C.ti e with
    | some i => AtNat ix fun j => match x with
      | .ptr b st r k => match Nat.beq st 1 && Nat.ble 2 n && Nat.beq i.sz 1 && Nat.beq k 0 with
        | true => j < n ∧ K ⟨.ptr b st (r + j) k, [], [], []⟩
        | false => j < n ∧ K ⟨.ptr b st r (k + j * i.sz), [], [], []⟩
      | _ => False
    | none => False
  | _ => False
theorem vIAddr_ok {nx : Nat} {K : Eff → Prop} {t : TypeId} {x ix : Operand} (ho : o.op = .indexAddr t x ix) (h : vIAddr C t (ev T x) (ev T ix) K) : Does C o N T H nx K := by
  have qo : ∀ ρ, Qt (execOp ρ o) := fun ρ => by simp only [execOp, ho]; exact .bind qt_indexAt fun _ => .pure
  have mx : x ∈ o.op.operands := by simp [ho, Op.operands]
  have mi : ix ∈ o.op.operands := by simp [ho, Op.operands]
  unfold vIAddr at h
  split at h
  · rename_i e hk
    obtain ⟨d, u, rfl⟩ := kind_ok hk
    split at h
    · rename_i i hi
      obtain ⟨k, j, hix, h⟩ := h.out
      have run : ∀ (a : Act) (w : World) (p : Addr) (n c : Nat), a.eval x = .slice (some p) n c → a.eval ix = .int k (j : Int) → j < n → (execOp a.eval o).run C.P w = .ok (.value (.pointer (some (p.add (j * i.sz))))) w := fun a w p n c e1 e2 hj => by
        have hs := (C.ok _ _ hi).run_sizeOf w
        simp only [execOp, ho, Instr.indexAt, e1, e2, asIntOf, Sem.run_bind, Sem.run_pure, Result.andThen_ok, run_underlying u]
        have : (0 : Int) ≤ (j : Int) ∧ (j : Int) < (n : Int) := by omega
        simp [this, hs, hj]
      split at h
      · rename_i b st o' n cap hx
        replace h := ck_out h
        obtain ⟨hst, hj, h⟩ := h
        have hst : st = i.sz := by simpa using hst
        refine does_valq h qo fun T' H' g1 _ E a w ht _ => ?_
        obtain ⟨c, ad, e1, hU, hn, hc, hh⟩ := rep_own (rep_at ht (g1 x mx) hx)
        rcases hh with ⟨hg, rfl, hsz⟩ | ⟨_, h0, _⟩
        · refine ⟨_, w, run a w _ n c e1 (rep_sc (rep_at ht (g1 ix mi) hix)) hj, rfl, ?_⟩
          rw [addr_add, hst, ← Nat.add_mul]
          have := RepA.ptr (w := w) b i.sz (o' + j) 0 hU hg
          simpa using this
        · omega
      · rename_i st es cap hx
        replace h := ck_out h
        obtain ⟨hst, e', he, h⟩ := h
        have hst : st = i.sz := by simpa using hst
        refine does_valq h qo fun T' H' g1 _ E a w ht _ => ?_
        obtain ⟨ad, n, c, vs, hv, hn, hc, hcap, hel, hcell, hrep⟩ := rep_ro (rep_at ht (g1 x mx) hx)
        obtain ⟨p, rfl, hsp, hpr, hcl⟩ := hcell j e' he
        refine ⟨_, w, run a w p n c hv (rep_sc (rep_at ht (g1 ix mi) hix)) (by rw [hn]; exact (List.getElem?_eq_some_iff.1 he).1), rfl, .cv _ _ ?_⟩
        rw [addr_add' hsp, ← hst]
        exact .rp _ _ (fun q => vs j q) rfl hpr (fun q y hy => by have := hcl q y hy; rwa [← Nat.add_assoc] at this) (fun q y hy => hrep j e' q y he hy)
      · exact h.elim
    · exact h.elim
  · rename_i n e hk
    obtain ⟨d, u, rfl⟩ := kind_ok hk
    split at h
    · rename_i i hi
      obtain ⟨k, j, hix, h⟩ := h.out
      split at h
      · rename_i b st r q hx
        have run : ∀ (a : Act) (w : World) (E : Emb), RepA w E (.ptr b st r q) (a.eval x) → a.eval ix = .int k (j : Int) → j < n → E.U b ∧ (execOp a.eval o).run C.P w = .ok (.value (.pointer (some ((⟨E.blk b, r * st + q, none⟩ : Addr).add (j * i.sz))))) w ∧ ¬ E.gh b := fun a w E rr e2 hj => by
          obtain ⟨hU, e1⟩ := rep_ptr rr
          have hs := (C.ok _ _ hi).run_sizeOf w
          refine ⟨hU, ?_, rep_ptr_g rr⟩
          simp only [execOp, ho, Instr.indexAt, e1, e2, asIntOf, Sem.run_bind, Sem.run_pure, Result.andThen_ok, run_underlying u, Instr.sureAddr]
          have : (0 : Int) ≤ (j : Int) ∧ (j : Int) < (n : Int) := by omega
          simp [this, hs, hj]
        split at h
        · rename_i hq
          obtain ⟨hj, h⟩ := h
          simp only [Bool.and_eq_true] at hq
          obtain ⟨⟨⟨q1, _⟩, q3⟩, q4⟩ := hq
          have q1 := Nat.eq_of_beq_eq_true q1
          have q3 := Nat.eq_of_beq_eq_true q3
          have q4 := Nat.eq_of_beq_eq_true q4
          subst q1; subst q4
          refine does_valq h qo fun T' H' g1 _ E a w ht _ => ?_
          obtain ⟨hU, h1, hg⟩ := run a w E (rep_at ht (g1 x mx) hx) (rep_sc (rep_at ht (g1 ix mi) hix)) hj
          refine ⟨_, w, h1, rfl, ?_⟩
          rw [addr_add, q3]
          have := RepA.ptr (w := w) b 1 (r + j) 0 hU hg
          simpa using this
        · obtain ⟨hj, h⟩ := h
          refine does_valq h qo fun T' H' g1 _ E a w ht _ => ?_
          obtain ⟨hU, h1, hg⟩ := run a w E (rep_at ht (g1 x mx) hx) (rep_sc (rep_at ht (g1 ix mi) hix)) hj
          refine ⟨_, w, h1, rfl, ?_⟩
          rw [addr_add, Nat.add_assoc]
          exact .ptr _ _ _ _ hU hg
      · exact h.elim
    · exact h.elim
  · exact h.elim

/-- a string's byte; an element of an array's value -/
def vIndex (C : Ctx) (t : TypeId) (x ix : AV) (K : Eff → Prop) : Prop := match C.kd t, x with
  | some .str, .cv (.sc (.string s)) => AtNat ix fun j => ∃ b, s[j]? = some b ∧ K ⟨iv .u8 b.toNat, [], [], []⟩
  | some (.arr n e), .agg cs => match C.ti e with
    | some i => AtNat ix fun j => j < n ∧ ∃ v, mkVar i.agg ((cs.drop (j * i.sz)).take i.sz) = some v ∧ ((cs.drop (j * i.sz)).take i.sz).length = i.sz ∧ K ⟨v, [], [], []⟩
    | none => False
  | _, _ => False
theorem vIndex_ok {nx : Nat} {K : Eff → Prop} {t : TypeId} {x ix : Operand} (ho : o.op = .index t x ix) (h : vIndex C t (ev T x) (ev T ix) K) : Does C o N T H nx K := by
  have qo : ∀ ρ, Qt (execOp ρ o) := fun ρ => by simp only [execOp, ho]; exact .bind qt_index fun _ => .pure
  have mx : x ∈ o.op.operands := by simp [ho, Op.operands]
  have mi : ix ∈ o.op.operands := by simp [ho, Op.operands]
  unfold vIndex at h
  split at h
  · rename_i s hk hx
    obtain ⟨d, u, rfl⟩ := kind_ok hk
    obtain ⟨k, j, hix, b, hb, h⟩ := h.out
    refine does_valq h qo fun T' H' g1 _ E a w ht _ => ⟨.int .u8 b.toNat, w, ?_, rfl, .cv _ _ (.sc _ rfl)⟩
    simp only [execOp, ho, Instr.index, rep_sc (rep_at ht (g1 x mx) hx), rep_sc (rep_at ht (g1 ix mi) hix), asIntOf, Sem.run_bind, Sem.run_pure, Result.andThen_ok, run_underlying u]
    simp [hb]
  · rename_i n e cs hk hx
    obtain ⟨d, u, rfl⟩ := kind_ok hk
    split at h
    · rename_i i hi
      obtain ⟨k, j, hix, hj, v, hm, hl, h⟩ := h.out
      refine does_valq h qo fun T' H' g1 _ E a w ht _ => ?_
      obtain ⟨vs, e1, hs, hr⟩ := rep_agg (rep_at ht (g1 x mx) hx)
      obtain ⟨y, hy, hv⟩ := run_part (C := C) (C.ok _ _ hi) hl hm hs hr
      refine ⟨y, w, ?_, rfl, hv⟩
      have hz := (C.ok _ _ hi).run_sizeOf w
      have : (0 : Int) ≤ (j : Int) ∧ (j : Int) < (n : Int) := by omega
      simp only [execOp, ho, Instr.index, e1, rep_sc (rep_at ht (g1 ix mi) hix), asIntOf, Sem.run_bind, Sem.run_pure, Result.andThen_ok, run_underlying u]
      simp [this, hj, hz, hy]
    · exact h.elim
  · exact h.elim

/-! slices of slices -/
def Bnd (x : Option AV) (d : Nat) (K : Nat → Prop) : Prop := match x with
  | none => K d
  | some x => AtNat x K
def bndA (x : Option AV) (d j : Nat) : Prop := match x with
  | none => j = d
  | some y => ∃ k, y = .cv (.sc (.int k (j : Int)))
def bndV (x : Option Value) (d j : Nat) : Prop := match x with
  | none => j = d
  | some y => ∃ k, y = .int k (j : Int)
theorem bnd_out {x : Option AV} {d : Nat} {K : Nat → Prop} (h : Bnd x d K) : ∃ j, K j ∧ bndA x d j := by
  cases x with
  | none => exact ⟨d, h, rfl⟩
  | some y => obtain ⟨k, j, e, h⟩ := AtNat.out h; exact ⟨j, h, k, e⟩
/-- the three bounds -/
theorem run_bounds {w : World} {isS : Bool} {n c l h m : Nat} {lo hi mx : Option Value} (hlo : bndV lo 0 l) (hhi : bndV hi n h) (hmx : bndV mx c m) (h1 : l ≤ h) (h2 : h ≤ m) (h3 : m ≤ c) (hm : mx.isSome = true → hi.isSome = true) :
    (Instr.sliceBounds isS n c lo hi mx).run C.P w = .ok (l, h, m) w := by
  have one : ∀ (k : IntKind) (j y : Nat) (code : BoundsCode), j ≤ y → (Instr.sliceBound (.int k (j : Int)) y code).run C.P w = .ok j w := fun k j y code hj => by
    simp only [Instr.sliceBound, asIntOf, Sem.run_bind, Sem.run_pure, Result.andThen_ok]
    rw [if_pos ⟨by omega, by omega⟩]; simp
  have h4 : h ≤ c := Nat.le_trans h2 h3
  cases mx <;> cases hi <;> cases lo <;> simp only [bndV] at hlo hhi hmx <;> (try (simp at hm; done)) <;> (try obtain ⟨_, rfl⟩ := hlo) <;> (try obtain ⟨_, rfl⟩ := hhi) <;> (try obtain ⟨_, rfl⟩ := hmx) <;> (try subst hlo) <;> (try subst hhi) <;> (try subst hmx) <;>
    simp [Instr.sliceBounds, one, h1, h2, h3, h4]
theorem bnd_at {z : Option Operand} {d j : Nat} (hz : bndA (z.map (ev T)) d j) (mz : ∀ y, z = some y → y ∈ o.op.operands) {T' : Nat → AV} (g1 : ∀ x ∈ o.op.operands, ev T' x = ev T x) {E : Emb} {a : Act} {w : World} (ht : TInv N E T' a w) : bndV (z.map a.eval) d j := by
  cases z with
  | none => exact hz
  | some y => obtain ⟨k, hy⟩ := hz; exact ⟨k, rep_sc (rep_at ht (g1 y (mz y rfl)) hy)⟩
theorem bnd_mx {z : Option Operand} {d c j : Nat} (hz : bndA (z.map (ev T)) d j) (mz : ∀ y, z = some y → y ∈ o.op.operands) {T' : Nat → AV} (g1 : ∀ x ∈ o.op.operands, ev T' x = ev T x) {E : Emb} {a : Act} {w : World} (ht : TInv N E T' a w) : bndV (z.map a.eval) c (if z.isSome then j else c) := by
  cases z with
  | none => rfl
  | some y => obtain ⟨k, hy⟩ := hz; exact ⟨k, rep_sc (rep_at ht (g1 y (mz y rfl)) hy)⟩

def vSlice (C : Ctx) (t : TypeId) (x : AV) (lo hi mx : Option AV) (K : Eff → Prop) : Prop := ck (!mx.isSome || hi.isSome) <| match C.kd t, x with
  | some .str, .cv (.sc (.string s)) => ck mx.isNone <| Bnd hi s.size fun h => h ≤ s.size ∧ Bnd lo 0 fun l => l ≤ h ∧ K ⟨sv (s.extract l h), [], [], []⟩
  | some (.slice e), .own b st o n cap => match C.ti e with
    | some i => ck (st == i.sz) <| Bnd hi n fun h => h ≤ n ∧ Bnd mx n fun m => (mx.isSome = true → h ≤ m ∧ m ≤ n) ∧ Bnd lo 0 fun l => l ≤ h ∧
        (l = 0 ∧ K ⟨.own b st o h (if mx.isSome then some m else cap), [], [], []⟩ ∨
         l < h ∧ K ⟨.own b st (o + l) (h - l) (if mx.isSome then some (m - l) else cap.map (· - l)), [], [], []⟩ ∨
         l = h ∧ K ⟨.cv (.ro st [] none), [], [], []⟩)
    | none => False
  | some (.slice e), .cv (.ro st es cap) => match C.ti e with
    | some i => ck (st == i.sz) <| Bnd hi es.length fun h => h ≤ es.length ∧ Bnd mx es.length fun m => (mx.isSome = true → h ≤ m ∧ m ≤ es.length) ∧ Bnd lo 0 fun l => l ≤ h ∧
        K ⟨.cv (.ro st ((es.take h).drop l) (if mx.isSome then some (m - l) else cap.map (· - l))), [], [], []⟩
    | none => False
  | some (.slice e), .cv (.sc (.slice none 0 0)) => ck (C.ti e).isSome <| Bnd hi 0 fun h => h = 0 ∧ Bnd mx 0 fun m => m = 0 ∧ Bnd lo 0 fun l => l = 0 ∧ K ⟨.cv (.sc (.slice none 0 0)), [], [], []⟩
  | _, _ => False
theorem vSlice_ok {nx : Nat} {K : Eff → Prop} {t : TypeId} {x : Operand} {lo hi mx : Option Operand} (ho : o.op = .slice t x lo hi mx) (h : vSlice C t (ev T x) (lo.map (ev T)) (hi.map (ev T)) (mx.map (ev T)) K) : Does C o N T H nx K := by
  have qo : ∀ ρ, Qt (execOp ρ o) := fun ρ => by simp only [execOp, ho]; exact .bind qt_sliceAt fun _ => .pure
  have mxx : x ∈ o.op.operands := by simp [ho, Op.operands]
  have mlo : ∀ y, lo = some y → y ∈ o.op.operands := by rintro y rfl; simp [ho, Op.operands]
  have mhi : ∀ y, hi = some y → y ∈ o.op.operands := by rintro y rfl; simp [ho, Op.operands]
  have mmx : ∀ y, mx = some y → y ∈ o.op.operands := by rintro y rfl; simp [ho, Op.operands]
  replace h := ck_out h
  obtain ⟨hmh, h⟩ := h
  have hmh : ∀ (a : Act), (mx.map a.eval).isSome = true → (hi.map a.eval).isSome = true := fun a => by cases mx <;> cases hi <;> simp_all
  split at h
  · rename_i s hk hx
    obtain ⟨d, u, rfl⟩ := kind_ok hk
    replace h := ck_out h
    obtain ⟨hm, h⟩ := h
    have hm : mx = none := by cases mx <;> simp at hm ⊢
    obtain ⟨q, ⟨hq, h⟩, hhi⟩ := bnd_out h
    obtain ⟨l, ⟨hl, h⟩, hlo⟩ := bnd_out h
    refine does_valq h qo fun T' H' g1 _ E a w ht _ => ⟨.string (s.extract l q), w, ?_, rfl, .cv _ _ (.sc _ rfl)⟩
    have rb := run_bounds (C := C) (w := w) (isS := false) (mx := none) (m := s.size) (c := s.size) (bnd_at hlo mlo g1 ht) (bnd_at hhi mhi g1 ht) rfl hl hq (Nat.le_refl _) (by simp)
    simp only [execOp, ho, Instr.sliceAt, rep_sc (rep_at ht (g1 x mxx) hx), Sem.run_bind, run_underlying u, Result.andThen_ok, Instr.slice, hm, Option.map_none]
    simp [rb]
  · rename_i e b st o' n cap hk hx
    obtain ⟨d, u, rfl⟩ := kind_ok hk
    split at h
    · rename_i i hi'
      replace h := ck_out h
      obtain ⟨hst, h⟩ := h
      have hst : st = i.sz := by simpa using hst
      obtain ⟨q, ⟨hq, h⟩, hhi⟩ := bnd_out h
      obtain ⟨m, ⟨hm, h⟩, hmx⟩ := bnd_out h
      obtain ⟨l, ⟨hl, h⟩, hlo⟩ := bnd_out h
      -- the capacity behind it
      have run : ∀ T' (g1 : ∀ x ∈ o.op.operands, ev T' x = ev T x) (E : Emb) (a : Act) (w : World) (ht : TInv N E T' a w), ∃ c ad, E.U b ∧ n ≤ c ∧ (∀ x, cap = some x → c = x) ∧ ((¬ E.gh b ∧ ad = some ⟨E.blk b, o' * st, none⟩ ∧ (o' + c) * st ≤ E.sz b) ∨ (E.gh b ∧ n = 0 ∧ c = 0)) ∧
          ∃ m', (if mx.isSome then m' = m else m' = c) ∧ q ≤ m' ∧ m' ≤ c ∧ (execOp a.eval o).run C.P w = .ok (.value (.slice (if m' = l then ad else ad.map (·.add (l * st))) (q - l) (m' - l))) w := fun T' g1 E a w ht => by
        obtain ⟨c, ad, e1, hU, hn, hc, hh⟩ := rep_own (rep_at ht (g1 x mxx) hx)
        refine ⟨c, ad, hU, hn, hc, hh, if mx.isSome then m else c, by split <;> rfl, ?_⟩
        have hqm : q ≤ (if mx.isSome then m else c) ∧ (if mx.isSome then m else c) ≤ c := by
          cases mx with
          | none => simp; omega
          | some y => have := hm (by simp); simp; omega
        refine ⟨hqm.1, hqm.2, ?_⟩
        have rb := run_bounds (C := C) (w := w) (isS := true) (c := c) (m := if mx.isSome then m else c) (bnd_at hlo mlo g1 ht) (bnd_at hhi mhi g1 ht) (bnd_mx hmx mmx g1 ht) hl hqm.1 hqm.2 (hmh a)
        have hs := (C.ok _ _ hi').run_sizeOf w
        simp only [execOp, ho, Instr.sliceAt, e1, Sem.run_bind, run_underlying u, Result.andThen_ok, Instr.slice]
        simp [rb, hs, hst]
      have capk : ∀ (c m' : Nat), (∀ x, cap = some x → c = x) → (if mx.isSome then m' = m else m' = c) → ∀ x, (if (mx.map (ev T)).isSome then some (m - l) else cap.map (· - l)) = some x → m' - l = x := fun c m' hc hm' x hx' => by
        cases mx with
        | none => simp at hx' hm'; obtain ⟨y, hy, rfl⟩ := hx'; rw [hm', hc y hy]
        | some z => simp at hx' hm'; omega
      rcases h with ⟨h0, h⟩ | ⟨h0, h⟩ | ⟨h0, h⟩
      · subst h0
        refine does_valq h qo fun T' H' g1 _ E a w ht _ => ?_
        obtain ⟨c, ad, hU, hn, hc, hh, m', hm', hqm, hmc, hr⟩ := run T' g1 E a w ht
        have ck := capk c m' hc hm'
        refine ⟨_, w, hr, rfl, ?_⟩
        have ea : (if m' = 0 then ad else ad.map (·.add (0 * st))) = ad := by
          split
          · rfl
          · cases ad <;> simp [Addr.add]
        rw [ea, Nat.sub_zero, Nat.sub_zero]
        have ck' : ∀ x, (if (mx.map (ev T)).isSome then some m else cap) = some x → m' = x := fun x hx' => by
          have := ck x; simp only [Nat.sub_zero] at this; exact this (by cases mx <;> simp at hx' ⊢ <;> simp [hx'])
        rcases hh with ⟨hg, rfl, hsz⟩ | ⟨hg, hn0, hc0⟩
        · exact .own _ _ _ _ _ m' hU hg hqm ck' (Nat.le_trans (Nat.mul_le_mul_right _ (show o' + m' ≤ o' + c by omega)) hsz)
        · have : q = 0 := by omega
          have hm0 : m' = 0 := by omega
          subst this; subst hm0
          exact .own0 _ _ _ _ _ hU hg fun x hx' => (ck' x hx').symm
      · refine does_valq h qo fun T' H' g1 _ E a w ht _ => ?_
        obtain ⟨c, ad, hU, hn, hc, hh, m', hm', hqm, hmc, hr⟩ := run T' g1 E a w ht
        refine ⟨_, w, hr, rfl, ?_⟩
        rcases hh with ⟨hg, rfl, hsz⟩ | ⟨hg, hn0, hc0⟩
        · have hne : m' ≠ l := by omega
          rw [if_neg hne]
          simp only [Option.map_some, addr_add]
          rw [← Nat.add_mul]
          exact .own _ _ _ _ _ (m' - l) hU hg (by omega) (capk c m' hc hm') (Nat.le_trans (Nat.mul_le_mul_right _ (show o' + l + (m' - l) ≤ o' + c by omega)) hsz)
        · omega
      · refine does_valq h qo fun T' H' g1 _ E a w ht _ => ?_
        obtain ⟨c, ad, hU, hn, hc, hh, m', hm', hqm, hmc, hr⟩ := run T' g1 E a w ht
        exact ⟨_, w, hr, rfl, .cv _ _ (.ro _ _ _ _ _ _ (fun _ _ => undef) (by simp; omega) (by omega) (by simp) (by simp) (by simp) (by simp))⟩
    · exact h.elim
  · rename_i e st es cap hk hx
    obtain ⟨d, u, rfl⟩ := kind_ok hk
    split at h
    · rename_i i hi'
      replace h := ck_out h
      obtain ⟨hst, h⟩ := h
      have hst : st = i.sz := by simpa using hst
      obtain ⟨q, ⟨hq, h⟩, hhi⟩ := bnd_out h
      obtain ⟨m, ⟨hm, h⟩, hmx⟩ := bnd_out h
      obtain ⟨l, ⟨hl, h⟩, hlo⟩ := bnd_out h
      refine does_valq h qo fun T' H' g1 _ E a w ht _ => ?_
      obtain ⟨ad, n, c, vs, hv, hn, hc, hcap, hel, hcell, hrep⟩ := rep_ro (rep_at ht (g1 x mxx) hx)
      have hqm : q ≤ (if mx.isSome then m else c) ∧ (if mx.isSome then m else c) ≤ c := by
        cases mx with
        | none => simp; omega
        | some y => have := hm (by simp); simp; omega
      have rb := run_bounds (C := C) (w := w) (isS := true) (n := n) (c := c) (m := if mx.isSome then m else c) (bnd_at hlo mlo g1 ht) (bnd_at (d := n) (hn ▸ hhi) mhi g1 ht) (bnd_mx hmx mmx g1 ht) hl hqm.1 hqm.2 (hmh a)
      have hs := (C.ok _ _ hi').run_sizeOf w
      refine ⟨.slice (if (if mx.isSome then m else c) = l then ad else ad.map (·.add (l * st))) (q - l) ((if mx.isSome then m else c) - l), w, ?_, rfl, .cv _ _ (.ro _ _ _ _ _ _ (fun r k => vs (l + r) k) (by simp; omega) (by omega) (fun y hy => ?_) (fun e he => hel e (List.mem_of_mem_take (List.mem_of_mem_drop he))) (fun r e he => ?_) (fun r e k y he hy => ?_))⟩
      · simp only [execOp, ho, Instr.sliceAt, hv, Sem.run_bind, run_underlying u, Result.andThen_ok, Instr.slice]
        simp [rb, hs, hst]
      · cases mx with
        | none => simp at hy ⊢; obtain ⟨y', hy', rfl⟩ := hy; rw [hcap y' hy']
        | some z => simp at hy ⊢; omega
      · rw [List.getElem?_drop, List.getElem?_take] at he
        split at he
        · rename_i hlt
          obtain ⟨p, rfl, hsp, hpr, hcl⟩ := hcell (l + r) e he
          refine ⟨p.add (l * st), ?_, by rw [addr_add' hsp], by rw [addr_add' hsp]; exact hpr, fun k y hy => ?_⟩
          · rw [if_neg (by omega)]; rfl
          · rw [addr_add' hsp]
            have := hcl k y hy
            rw [← this]
            simp only
            congr 1
            rw [Nat.add_mul]; omega
        · cases he
      · rw [List.getElem?_drop, List.getElem?_take] at he
        split at he
        · exact hrep (l + r) e k y he hy
        · cases he
    · exact h.elim
  · rename_i e hk hx
    obtain ⟨d, u, rfl⟩ := kind_ok hk
    replace h := ck_out h
    obtain ⟨hie, h⟩ := h
    obtain ⟨i, hie⟩ := Option.isSome_iff_exists.1 hie
    obtain ⟨q, ⟨rfl, h⟩, hhi⟩ := bnd_out h
    obtain ⟨m, ⟨rfl, h⟩, hmx⟩ := bnd_out h
    obtain ⟨l, ⟨rfl, h⟩, hlo⟩ := bnd_out h
    refine does_valq h qo fun T' H' g1 _ E a w ht _ => ?_
    have rb := run_bounds (C := C) (w := w) (isS := true) (n := 0) (c := 0) (l := 0) (h := 0) (m := 0) (bnd_at hlo mlo g1 ht) (bnd_at hhi mhi g1 ht) (bnd_at hmx mmx g1 ht) (Nat.le_refl _) (Nat.le_refl _) (Nat.le_refl _) (hmh a)
    have hs := (C.ok _ _ hie).run_sizeOf w
    refine ⟨.slice none 0 0, w, ?_, rfl, .cv _ _ (.sc _ rfl)⟩
    simp only [execOp, ho, Instr.sliceAt, rep_sc (rep_at ht (g1 x mxx) hx), Sem.run_bind, run_underlying u, Result.andThen_ok, Instr.slice]
    simp [rb, hs]
  · exact h.elim
end
end Go.Proofs.YtdjoodbidcncaaaGreatDoor.AW

/- Operations: values built, rows made, rows grown. -/
namespace Go.Proofs.YtdjoodbidcncaaaGreatDoor.AW
open Go

theorem HInv.lt {E : Emb} {H : Nat → Option Block} {w : World} (h : HInv E H w) {x : Nat} {X : Block} (hx : H x = some X) (hg : ¬ E.gh x) : E.blk x < w.heap.size := by
  cases X with
  | box cs => obtain ⟨_, c, p, _⟩ := h.hp x _ hx; exact p.lt
  | row st es =>
    rcases h.hp x _ hx with ⟨g, _⟩ | ⟨_, c, p, _⟩
    · exact (hg g).elim
    · exact p.lt
  | mp es =>
    obtain ⟨_, _, _, p, _⟩ := h.hp x _ hx
    exact (Array.getElem?_eq_some_iff.1 p).1
  | ch cap es shut =>
    obtain ⟨_, _, _, _, _, p, _⟩ := h.hp x _ hx
    exact (Array.getElem?_eq_some_iff.1 p).1

/-! blocks handed over to what is read only -/
def Emb.frz (E : Emb) (ns : List Nat) : Emb := { E with pr := fun r => E.pr r ∨ ∃ b ∈ ns, ¬ E.gh b ∧ r = E.blk b, fr := fun r => E.fr r ∨ ∃ b ∈ ns, ¬ E.gh b ∧ r = E.blk b }
def gone (ns : List Nat) : List (Nat × Option Block) := ns.map fun b => (b, none)
theorem updH_gone : ∀ (ns : List Nat) (H : Nat → Option Block) (x : Nat), updH H (gone ns) x = if x ∈ ns then none else H x
  | [], H, x => by simp [gone, updH]
  | b :: ns, H, x => by
    have := updH_gone ns (setH H b none) x
    simp only [gone, List.map_cons, updH] at this ⊢
    rw [this]
    by_cases e : x ∈ ns
    · simp [e]
    · by_cases e2 : x = b <;> simp [e, e2, setH]
theorem updH_app : ∀ (l l' : List (Nat × Option Block)) (H : Nat → Option Block), updH H (l ++ l') = updH (updH H l) l'
  | [], _, _ => rfl
  | p :: l, l', H => by simp only [List.cons_append, updH]; exact updH_app l l' _
theorem HInv.frz {E : Emb} {H : Nat → Option Block} {w : World} (h : HInv E H w) (ns : List Nat) (hn : ∀ b ∈ ns, ∃ B, H b = some B) : HInv (E.frz ns) (updH H (gone ns)) w ∧ Ext E.U E w (E.frz ns) w := by
  have f : ∀ x X, updH H (gone ns) x = some X → x ∉ ns ∧ H x = some X := fun x X hx => by
    rw [updH_gone] at hx
    split at hx
    · cases hx
    · exact ⟨by assumption, hx⟩
  refine ⟨⟨fun x X hx => ?_, fun x X hx => ?_, fun x y X Y hx hy gx gy e => h.inj x y X Y (f x X hx).2 (f y Y hy).2 gx gy e, fun r hr => hr.imp (h.prfr r) id, fun r hr => ?_⟩, ⟨fun _ _ => rfl, fun _ h => .inl h, fun _ h => .inl h, Nat.le_refl _, fun _ _ => ⟨rfl, rfl, .rfl⟩, fun b hb hg => .inr ⟨b, hb, hg, rfl⟩, fun r hr => hr.imp id fun ⟨b, hb, hg, e⟩ => .inr ⟨b, (hn b hb).elim fun B hB => (h.un b B hB).1, hg, e⟩, ⟨rfl, rfl, rfl⟩⟩⟩
  · obtain ⟨_, hx⟩ := f x X hx
    exact (h.hp x X hx).mono (E' := E.frz ns) (fun _ _ => rfl) (fun _ h => .inl h) (fun _ h => ⟨h, rfl, rfl, .rfl⟩) (h.un x X hx).1 (fun _ => rfl)
  · obtain ⟨hne, hx⟩ := f x X hx
    refine ⟨(h.un x X hx).1, fun hg hf => ?_⟩
    rcases hf with hf | ⟨b, hb, gb, e⟩
    · exact (h.un x X hx).2 hg hf
    · obtain ⟨B, hB⟩ := hn b hb
      exact hne (h.inj x b X B hx hB hg gb e ▸ hb)
  · rcases hr with hr | ⟨b, hb, gb, e⟩
    · exact h.frlt r hr
    · obtain ⟨B, hB⟩ := hn b hb
      exact e ▸ h.lt hB gb

/-- a slice of a row of one's own, read only from now on -/
theorem own_ro {E : Emb} {H : Nat → Option Block} {w : World} (h : HInv E H w) {b st o n : Nat} {cap : Option Nat} {es : List (List CV)} {u : Value} (hb : H b = some (.row st es)) (hr : RepA w E (.own b st o n cap) u) (hl : o + n ≤ es.length)
    {pr : Nat → Prop} (hp : ∀ r, E.pr r → pr r) (hpb : ¬ E.gh b → pr (E.blk b)) : RepC w pr (.ro st ((es.drop o).take n) cap) u := by
  obtain ⟨c, a, rfl, hU, hnc, hcap, hh⟩ := rep_own hr
  have hlen : n = ((es.drop o).take n).length := by simp; omega
  have hst : ∀ e ∈ es, e.length = st := by
    rcases h.hp b _ hb with ⟨_, he⟩ | ⟨_, cells, p, hs, hle, hel, hc⟩
    · subst he; simp
    · exact hel
  rcases hh with ⟨hg, rfl, hsz⟩ | ⟨hg, h0, rfl⟩
  · obtain ⟨_, cells, p, hs, hle, hel, hc⟩ := (h.hp b _ hb).resolve_left fun g => hg g.1
    refine .ro st _ cap _ n c (fun i k => cells.getD ((o + i) * st + k) undef) hlen hnc hcap (fun e he => hel e (List.mem_of_mem_drop (List.mem_of_mem_take he))) (fun i e he => ?_) (fun i e k x he hx => (hc (o + i) e k x (take_drop_get he).1 hx).mono (fun _ _ => rfl) hp)
    refine ⟨_, rfl, rfl, hpb hg, fun k x hx => ?_⟩
    obtain ⟨h1, h2⟩ := take_drop_get he
    have hel' := hel e (List.mem_of_getElem? h1)
    have hk := (List.getElem?_eq_some_iff.1 hx).1
    have hi := (List.getElem?_eq_some_iff.1 h1).1
    have hm : (o + i + 1) * st ≤ es.length * st := Nat.mul_le_mul_right _ hi
    rw [Nat.succ_mul] at hm
    have hlt : (o + i) * st + k < cells.size := by omega
    have e1 : o * st + (i * st + k) = (o + i) * st + k := by rw [Nat.add_mul]; omega
    simp only [cellAt, p.cell, e1]
    simp [Array.getD_eq_getD_getElem?, hlt]
  · subst h0
    exact .ro st _ cap _ 0 0 (fun _ _ => undef) (by simp) (Nat.le_refl _) hcap (by simp) (by simp) (by simp)

/-- cells closed: rows of one's own in them are handed over -/
def vFrz (H : Nat → Option Block) : List AV → (List CV → List Nat → Prop) → Prop
  | [], K => K [] []
  | .cv c :: l, K => vFrz H l fun r ns => K (c :: r) ns
  | .own b st o n cap :: l, K => match H b with
    | some (.row st' es) => ck (st == st') <| o + n ≤ es.length ∧ vFrz H l fun r ns => K (.ro st ((es.drop o).take n) cap :: r) (b :: ns)
    | _ => False
  | _ :: _, _ => False
theorem vFrz_out {H : Nat → Option Block} : ∀ {l : List AV} {K : List CV → List Nat → Prop}, vFrz H l K → ∃ r ns, K r ns ∧ r.length = l.length ∧ (∀ b ∈ ns, ∃ B, H b = some B) ∧
    ∀ (H' : Nat → Option Block), (∀ b ∈ ns, H' b = H b) → ∀ E w, HInv E H' w → ∀ (pr : Nat → Prop), (∀ r, E.pr r → pr r) → (∀ b ∈ ns, ¬ E.gh b → pr (E.blk b)) → ∀ (k : Nat) (x : CV), r[k]? = some x → ∃ y, l[k]? = some y ∧ ∀ u, RepA w E y u → RepC w pr x u
  | [], K, h => ⟨[], [], h, rfl, by simp, fun _ _ _ _ _ _ _ _ k x hx => by simp at hx⟩
  | x :: l, K, h => by
    have step : ∀ {c : CV} {ms : List Nat}, vFrz H l (fun r ns => K (c :: r) (ms ++ ns)) → (∀ b ∈ ms, ∃ B, H b = some B) →
        (∀ (H' : Nat → Option Block), (∀ b ∈ ms, H' b = H b) → ∀ E w, HInv E H' w → ∀ (pr : Nat → Prop), (∀ r, E.pr r → pr r) → (∀ b ∈ ms, ¬ E.gh b → pr (E.blk b)) → ∀ u, RepA w E x u → RepC w pr c u) →
        ∃ r ns, K r ns ∧ r.length = (x :: l).length ∧ (∀ b ∈ ns, ∃ B, H b = some B) ∧
          ∀ (H' : Nat → Option Block), (∀ b ∈ ns, H' b = H b) → ∀ E w, HInv E H' w → ∀ (pr : Nat → Prop), (∀ r, E.pr r → pr r) → (∀ b ∈ ns, ¬ E.gh b → pr (E.blk b)) → ∀ (k : Nat) (z : CV), r[k]? = some z → ∃ y, (x :: l)[k]? = some y ∧ ∀ u, RepA w E y u → RepC w pr z u := fun {c ms} g hm hx => by
      obtain ⟨r, ns, h1, h2, h3, h4⟩ := vFrz_out g
      refine ⟨c :: r, ms ++ ns, h1, by simp [h2], fun b hb => (List.mem_append.1 hb).elim (hm b) (h3 b), fun H' hH E w hi pr hp hpb k z hz => ?_⟩
      cases k with
      | zero =>
        simp only [List.getElem?_cons_zero, Option.some.injEq] at hz
        subst hz
        exact ⟨x, rfl, hx H' (fun b hb => hH b (List.mem_append.2 (.inl hb))) E w hi pr hp fun b hb => hpb b (List.mem_append.2 (.inl hb))⟩
      | succ k =>
        simp only [List.getElem?_cons_succ] at hz ⊢
        exact h4 H' (fun b hb => hH b (List.mem_append.2 (.inr hb))) E w hi pr hp (fun b hb => hpb b (List.mem_append.2 (.inr hb))) k z hz
    cases x with
    | cv c => exact step (ms := []) h (by simp) fun H' _ E w _ pr hp _ u hu => by cases hu with | cv _ _ hc => exact hc.mono (fun _ _ => rfl) hp
    | own b st o n cap =>
      simp only [vFrz] at h
      split at h
      · rename_i st' es hb
        replace h := ck_out h
        obtain ⟨hst, hl, h⟩ := h
        have hst : st = st' := by simpa using hst
        subst hst
        exact step (ms := [b]) h (by simpa using ⟨_, hb⟩) fun H' hH E w hi pr hp hpb u hu => own_ro hi ((hH b (by simp)).trans hb) hu hl hp (hpb b (by simp))
      · exact h.elim
    | _ => exact h.elim

/-! parts laid into cells -/
theorem foldSet_get (off : Nat) : ∀ (l : List Value) (j0 : Nat) (cells : Array Value), off + j0 + l.length ≤ cells.size →
    ((l.zipIdx j0).foldl (fun (cs : Array Value) (p : Value × Nat) => cs.setIfInBounds (off + p.2) p.1) cells).size = cells.size ∧
    ∀ q, ((l.zipIdx j0).foldl (fun (cs : Array Value) (p : Value × Nat) => cs.setIfInBounds (off + p.2) p.1) cells).getD q undef = if off + j0 ≤ q ∧ q < off + j0 + l.length then l.getD (q - (off + j0)) undef else cells.getD q undef
  | [], j0, cells, _ => ⟨rfl, fun q => by simp; omega⟩
  | v :: l, j0, cells, h => by
    simp only [List.length_cons] at h
    obtain ⟨h1, h2⟩ := foldSet_get off l (j0 + 1) (cells.setIfInBounds (off + j0) v) (by simp; omega)
    refine ⟨by simpa [List.zipIdx_cons] using h1, fun q => ?_⟩
    simp only [List.zipIdx_cons, List.foldl_cons]
    rw [h2 q]
    by_cases e : q = off + j0
    · subst e
      rw [if_neg (by omega), if_pos (by simp)]
      simp [Array.getD_eq_getD_getElem?, show off + j0 < cells.size by omega]
    · by_cases e2 : off + (j0 + 1) ≤ q ∧ q < off + (j0 + 1) + l.length
      · rw [if_pos e2, if_pos (by simp; omega)]
        obtain ⟨d, hd⟩ : ∃ d, q - (off + j0) = d + 1 := ⟨q - (off + j0) - 1, by omega⟩
        rw [hd, show q - (off + (j0 + 1)) = d by omega]
        rfl
      · rw [if_neg e2, if_neg (by simp; omega)]
        simp only [Array.getD_eq_getD_getElem?]
        rw [Array.getElem?_setIfInBounds_ne (Ne.symm e)]
theorem fill_one {v : Value} {cells : Array Value} {off : Nat} (h : off + v.cells.size ≤ cells.size) : ∃ cells', v.cells.zipIdx.foldl (fun (cs : Array Value) (p : Value × Nat) => cs.setIfInBounds (off + p.2) p.1) cells = cells' ∧ cells'.size = cells.size ∧
    ∀ q, cells'.getD q undef = if off ≤ q ∧ q < off + v.cells.size then v.cells.getD (q - off) undef else cells.getD q undef := by
  obtain ⟨h1, h2⟩ := foldSet_get off v.cells.toList 0 cells (by simpa using h)
  refine ⟨_, rfl, ?_, fun q => ?_⟩
  · rw [← Array.foldl_toList, Array.toList_zipIdx]; exact h1
  · have := h2 q
    rw [← Array.foldl_toList, Array.toList_zipIdx, this]
    simp [List.getD, Array.getD_eq_getD_getElem?]

section
variable {C : Ctx} {o : Oper} {N : Nat} {T : Nat → AV} {H : Nat → Option Block}

/-- a struct's value out of its parts -/
def vParts (C : Ctx) (fs : List (Nat × Nat)) : List (Nat × AV) → List AV → (List AV → Prop) → Prop
  | [], cs, K => K cs
  | (f, x) :: l, cs, K => match fs[f]? with
    | some (off, ft) => match C.ti ft, cellsA x with
      | some i, some c => ck (c.length == i.sz && decide (off + c.length ≤ cs.length)) <| vParts C fs l (splice cs off c) K
      | _, _ => False
    | none => False
def allTi (C : Ctx) (fs : List (Nat × Nat)) : Bool := fs.all fun p => (C.ti p.2).isSome
def vBuild (C : Ctx) (t : TypeId) (ps : List (Nat × AV)) (K : Eff → Prop) : Prop := match C.ti t, C.kd t with
  | some i, some (.strct fs) => ck (allTi C fs) <| vParts C fs ps (zeroA i) fun cs => K ⟨.agg cs, [], [], []⟩
  | _, _ => False
theorem vParts_out {fs : List (Nat × Nat)} {places : Array (Nat × Nat)} (hpl : ∀ (f off ft : Nat), fs[f]? = some (off, ft) → ∀ i, C.ti ft = some i → places[f]? = some (off, i.sz)) : ∀ {ps : List (Nat × AV)} {cs : List AV} {K : List AV → Prop}, vParts C fs ps cs K → ∃ r, K r ∧
    ∀ (E : Emb) (w : World) (vs : List (Nat × Value)) (cells : Array Value), vs.length = ps.length → (∀ (k : Nat) (p : Nat × AV) (v : Nat × Value), ps[k]? = some p → vs[k]? = some v → p.1 = v.1 ∧ RepA w E p.2 v.2) → cells.size = cs.length → (∀ k x, cs[k]? = some x → RepA w E x (cells.getD k undef)) →
      ∃ cells', Instr.fill (places[·]?) cells vs = some cells' ∧ cells'.size = r.length ∧ ∀ k x, r[k]? = some x → RepA w E x (cells'.getD k undef)
  | [], cs, K, h => ⟨cs, h, fun E w vs cells hl _ hs hr => by
      have : vs = [] := List.length_eq_zero_iff.1 hl
      subst this
      exact ⟨cells, rfl, hs, hr⟩⟩
  | (f, x) :: l, cs, K, h => by
    simp only [vParts] at h
    split at h
    · rename_i off ft hf
      split at h
      · rename_i i c hi hc
        replace h := ck_out h
        obtain ⟨hl, h⟩ := h
        simp only [Bool.and_eq_true, beq_iff_eq, decide_eq_true_eq] at hl
        obtain ⟨hl, hle⟩ := hl
        obtain ⟨r, hk, hr⟩ := vParts_out hpl h
        refine ⟨r, hk, fun E w vs cells hvl hvs hs hcr => ?_⟩
        cases vs with
        | nil => simp at hvl
        | cons v vs =>
          obtain ⟨e1, e2⟩ := hvs 0 _ v rfl rfl
          obtain ⟨g1, _, g3⟩ := cells_rep e2 hc
          obtain ⟨vi, vv⟩ := v
          simp only at e1 e2 g1 g3
          subst e1
          obtain ⟨cells', q1, q2, q3⟩ := fill_one (v := vv) (cells := cells) (off := off) (by rw [g1, hs]; exact hle)
          simp only [Instr.fill, hpl _ _ _ hf i hi]
          rw [if_neg (by simp [g1, hl, hs]; omega)]
          have := hr E w vs cells' (by simpa using hvl) (fun k p v hp hv => hvs (k + 1) p v hp hv) (by rw [q2, hs, splice_len hle]) (fun k y hy => by
            rw [splice_get hle] at hy
            rw [q3 k, g1]
            split at hy
            · rw [if_neg (by omega)]; exact hcr k y hy
            · split at hy
              · rw [if_pos ⟨by omega, by assumption⟩]; exact g3 _ y hy
              · rw [if_neg (by omega)]; exact hcr k y hy)
          rw [← q1] at this
          exact this
      · exact h.elim
    · exact h.elim
def places (C : Ctx) (F : List Field) : List (Nat × Nat) := F.map fun f => (f.offset, match C.ti f.type with | some i => i.sz | none => 0)
theorem run_places {w : World} : ∀ {F : List Field}, (∀ f ∈ F, (C.ti f.type).isSome = true) → (F.mapM fun f => (do pure (f.offset, ← sizeOf f.type) : Sem (Nat × Nat))).run C.P w = .ok (places C F) w
  | [], _ => rfl
  | f :: F, h => by
    have h1 := run_places (w := w) (F := F) fun g hg => h g (List.mem_cons_of_mem _ hg)
    obtain ⟨i, hi⟩ := Option.isSome_iff_exists.1 (h f (List.mem_cons_self ..))
    rw [List.mapM_cons, Sem.run_bind, Sem.run_bind, (C.ok _ _ hi).run_sizeOf]
    simp only [Result.andThen_ok, Sem.run_pure]
    rw [Sem.run_bind, h1]
    simp [places, hi]
theorem vBuild_ok {nx : Nat} {K : Eff → Prop} {t : TypeId} {ps : Array (Nat × Operand)} (ho : o.op = .build t ps) (h : vBuild C t (ps.toList.map fun p => (p.1, ev T p.2)) K) : Does C o N T H nx K := by
  have qo : ∀ ρ, Qt (execOp ρ o) := fun ρ => by simp only [execOp, ho]; exact .bind qt_build fun _ => .pure
  unfold vBuild at h
  split at h
  · rename_i i fs hi hk
    replace h := ck_out h
    obtain ⟨hall, h⟩ := h
    obtain ⟨d, u, F, rfl, hF⟩ := kind_ok hk
    have hall' : ∀ f ∈ F.toList, (C.ti f.type).isSome = true := fun f hf => by
      have : (f.offset, f.type) ∈ fs := by rw [← hF]; exact List.mem_map.2 ⟨f, hf, rfl⟩
      exact List.all_eq_true.1 hall _ this
    have hpl' : ∀ (f off ft : Nat), fs[f]? = some (off, ft) → ∀ i, C.ti ft = some i → (places C F.toList).toArray[f]? = some (off, i.sz) := fun f off ft hf i hi => by
      rw [← hF] at hf
      simp only [List.getElem?_map, Option.map_eq_some_iff, Prod.mk.injEq] at hf
      obtain ⟨fld, h1, rfl, rfl⟩ := hf
      simp only [places, List.getElem?_toArray, List.getElem?_map, h1, Option.map_some, hi]
    obtain ⟨r, hkr, hr⟩ := vParts_out hpl' h
    refine does_valq hkr qo fun T' H' g1 _ E a w ht _ => ?_
    obtain ⟨z, hz, hz2⟩ := (C.ok _ _ hi).run_zero w
    obtain ⟨cells', q1, q2, q3⟩ := hr E w (ps.toList.map fun p => (p.1, a.eval p.2)) z.cells (by simp) (fun k p v hp hv => by
        simp only [List.getElem?_map, Option.map_eq_some_iff] at hp hv
        obtain ⟨p', hp', rfl⟩ := hp
        obtain ⟨v', hv', rfl⟩ := hv
        rw [hp'] at hv'; cases hv'
        refine ⟨rfl, rep_at ht (g1 p'.2 ?_) rfl⟩
        rw [ho]; simp only [Op.operands]
        exact Array.mem_toList_iff.1 (by simpa using ⟨p'.1, Array.mem_toList_iff.1 (List.mem_of_getElem? hp')⟩)) (by rw [zero_cells hz2]; simp [zeroA]) (by rw [zero_cells hz2]; exact zeroA_rep (C.ok _ _ hi).one)
    refine ⟨.agg cells', w, ?_, rfl, .agg _ _ q2 q3⟩
    have hm : (F.mapM fun f => (do pure (f.offset, ← sizeOf f.type) : Sem (Nat × Nat))).run C.P w = .ok (places C F.toList).toArray w := by
      rw [Array.mapM_eq_mapM_toList, Sem.run_map, run_places hall']; rfl
    have hp : (ps.map fun p => (p.1, a.eval p.2)).toList = ps.toList.map fun p => (p.1, a.eval p.2) := by simp
    simp only [execOp, ho, Instr.build, Sem.run_bind, hz, Result.andThen_ok, run_underlying u, hm, hp, q1]
    rfl
  · exact h.elim
end
end Go.Proofs.YtdjoodbidcncaaaGreatDoor.AW
