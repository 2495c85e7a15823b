/- Operations: what each does to an abstract state (values). -/
import Derived.Test.YtnffoddeppimkaaAwC
namespace Go.Proofs.Ytnffoddeppimkaa.AW
open Go

abbrev iv (k : IntKind) (z : Int) : AV := .cv (.sc (.int k z))
abbrev bv (q : Bool) : AV := .cv (.sc (.bool q))
abbrev sv (s : ByteArray) : AV := .cv (.sc (.string s))

section
variable {w : World} {E : Emb} {u : Value}
theorem rep_sc {v : Value} (h : RepA w E (.cv (.sc v)) u) : u = v := by cases h with | cv c v h => cases h; rfl
theorem rep_ptr {b st i k : Nat} (h : RepA w E (.ptr b st i k) u) : E.U b ∧ u = .pointer (some ⟨E.blk b, i * st + k, none⟩) := by cases h with | ptr _ _ _ _ hU _ => exact ⟨hU, rfl⟩
theorem rep_ptr_g {b st i k : Nat} (h : RepA w E (.ptr b st i k) u) : ¬ E.gh b := by cases h with | ptr _ _ _ _ _ hg => exact hg
theorem rep_own {b st o n : Nat} {cap : Option Nat} (h : RepA w E (.own b st o n cap) u) : ∃ c a, u = .slice a n c ∧ E.U b ∧ n ≤ c ∧ (∀ x, cap = some x → c = x) ∧ ((¬ E.gh b ∧ a = some ⟨E.blk b, o * st, none⟩ ∧ (o + c) * st ≤ E.sz b) ∨ (E.gh b ∧ n = 0 ∧ c = 0)) := by
  cases h with
  | own _ _ _ _ _ c h1 h2 h3 h4 h5 => exact ⟨c, _, rfl, h1, h3, h4, .inl ⟨h2, rfl, h5⟩⟩
  | own0 _ _ _ _ a h1 h2 h3 => exact ⟨0, a, rfl, h1, Nat.le_refl _, fun x hx => (h3 x hx).symm, .inr ⟨h2, rfl, rfl⟩⟩
theorem rep_agg {cs : List AV} (h : RepA w E (.agg cs) u) : ∃ vs : Array Value, u = .agg vs ∧ vs.size = cs.length ∧ ∀ k x, cs[k]? = some x → RepA w E x (vs.getD k undef) := by
  cases h with | agg _ vs hs h => exact ⟨vs, rfl, hs, h⟩
theorem rep_tup {cs : List AV} (h : RepA w E (.tup cs) u) : ∃ vs : Array Value, u = .tuple vs ∧ vs.size = cs.length ∧ ∀ k x, cs[k]? = some x → RepA w E x (vs.getD k undef) := by
  cases h with | tup _ vs hs h => exact ⟨vs, rfl, hs, h⟩
theorem rep_ifc {t : TypeId} {c : AV} (h : RepA w E (.ifc t c) u) : ∃ v, u = .iface t v ∧ RepA w E c v := by cases h with | ifc _ _ v h => exact ⟨v, rfl, h⟩
theorem rep_fn {f : Fn} {fs cs : List AV} (h : RepA w E (.fn f fs cs) u) : ∃ a b : Array Value, u = .func f a b ∧ a.size = fs.length ∧ b.size = cs.length ∧ (∀ (k : Nat) (x : AV), fs[k]? = some x → RepA w E x (a.getD k undef)) ∧ ∀ (k : Nat) (x : AV), cs[k]? = some x → RepA w E x (b.getD k undef) := by
  cases h with | fn _ _ _ a b h1 h2 h3 h4 => exact ⟨a, b, rfl, h1, h2, h3, h4⟩
theorem rep_ro {st : Nat} {es : List (List CV)} {cap : Option Nat} (h : RepA w E (.cv (.ro st es cap)) u) : ∃ (a : Option Addr) (n c : Nat) (vs : Nat → Nat → Value), u = .slice a n c ∧ n = es.length ∧ n ≤ c ∧ (∀ x, cap = some x → c = x) ∧ (∀ e ∈ es, e.length = st) ∧
      (∀ i e, es[i]? = some e → ∃ ad, a = some ad ∧ ad.spot = none ∧ E.pr ad.block ∧ ∀ k x, e[k]? = some x → cellAt w ad.block (ad.off + (i * st + k)) = some (vs i k)) ∧
      (∀ i e k x, es[i]? = some e → e[k]? = some x → RepC w E.pr x (vs i k)) := by
  cases h with | cv _ _ h => cases h with | ro _ _ _ a n c vs h1 h2 h3 h4 h5 h6 => exact ⟨a, n, c, vs, rfl, h1, h2, h3, h4, h5, h6⟩
theorem rep_rp {cs : List CV} (h : RepA w E (.cv (.rp cs)) u) : ∃ (p : Addr) (vs : Nat → Value), u = .pointer (some p) ∧ p.spot = none ∧ E.pr p.block ∧ (∀ k x, cs[k]? = some x → cellAt w p.block (p.off + k) = some (vs k)) ∧ ∀ k x, cs[k]? = some x → RepC w E.pr x (vs k) := by
  cases h with | cv _ _ h => cases h with | rp _ p vs h1 h2 h3 h4 => exact ⟨p, vs, rfl, h1, h2, h3, h4⟩
end

section
variable {C : Ctx} {o : Oper} {N : Nat} {T : Nat → AV} {H : Nat → Option Block}

theorem loc_mk {e : Eff} (h : ∀ T' H', (∀ x ∈ o.op.operands, ev T' x = ev T x) → (∀ b ∈ e.rd, H' b = H b) → ∀ E a w, TInv N E T' a w → HInv E H' w → (∀ b ∈ e.nw, ¬ E.U b) →
    ∃ u w' E', ((execOp a.eval o).run C.P w = .ok (.value u) w' ∨ ((execOp a.eval o).run C.P w = .ok .skip w' ∧ u = undef)) ∧ RepA w' E' e.v u ∧ HInv E' (updH H' e.wr) w' ∧ Ext E.U E w E' w' ∧ ∀ b, E'.U b ↔ E.U b ∨ b ∈ e.nw) : OpLoc C.P o N T H e := by
  intro T' H' h1 h2 E a w K Q ht hh hf hk
  obtain ⟨u, w', E', hr, hv, hH, hx, hU⟩ := h T' H' h1 h2 E a w ht hh hf
  unfold Oper.wp
  rcases hr with hr | ⟨hr, rfl⟩ <;> (rw [hr]; exact hk _ E' w' hv hH hx hU)

theorem loc_val {v : AV} {rd : List Nat} (h : ∀ T' H', (∀ x ∈ o.op.operands, ev T' x = ev T x) → (∀ b ∈ rd, H' b = H b) → ∀ E a w, TInv N E T' a w → HInv E H' w →
    ∃ u w', (execOp a.eval o).run C.P w = .ok (.value u) w' ∧ w' = w ∧ RepA w E v u) : OpLoc C.P o N T H ⟨v, [], [], rd⟩ :=
  loc_mk fun T' H' h1 h2 E a w ht hh _ => by
    obtain ⟨u, w', hr, hw, hv⟩ := h T' H' h1 h2 E a w ht hh
    subst hw
    exact ⟨u, w', E, .inl hr, hv, hh, Ext.refl _ _ _, fun b => by simp⟩

theorem rep_at {T' : Nat → AV} {E : Emb} {a : Act} {w : World} (ht : TInv N E T' a w) {x : Operand} {y : AV} (h1 : ev T' x = ev T x) (h2 : ev T x = y) : RepA w E y (a.eval x) := by
  rw [← h2, ← h1]; exact rep_ev ht x

/-- an effect that the walk goes on from -/
def Does (C : Ctx) (o : Oper) (N : Nat) (T : Nat → AV) (H : Nat → Option Block) (nx : Nat) (K : Eff → Prop) : Prop := ∃ e, OpLoc C.P o N T H e ∧ e.nw = List.range' nx e.nw.length ∧ K e
theorem does_val {nx : Nat} {K : Eff → Prop} {v : AV} {rd : List Nat} (hk : K ⟨v, [], [], rd⟩) (h : ∀ T' H', (∀ x ∈ o.op.operands, ev T' x = ev T x) → (∀ b ∈ rd, H' b = H b) → ∀ E a w, TInv N E T' a w → HInv E H' w →
    ∃ u w', (execOp a.eval o).run C.P w = .ok (.value u) w' ∧ w' = w ∧ RepA w E v u) : Does C o N T H nx K := ⟨_, loc_val h, rfl, hk⟩

/-! moves -/
def vMove (x : AV) (K : Eff → Prop) : Prop := K ⟨x, [], [], []⟩
theorem vMove_ok {nx : Nat} {K : Eff → Prop} {x : Operand} (ho : o.op = .move x ∨ o.op = .assign x) (h : vMove (ev T x) K) : Does C o N T H nx K :=
  does_val h fun T' H' h1 _ E a w ht _ => ⟨a.eval x, w, by rcases ho with ho | ho <;> simp [execOp, ho], rfl, rep_at ht (h1 x (by rcases ho with ho | ho <;> simp [ho, Op.operands])) rfl⟩

def vPick (c x y : AV) (K : Eff → Prop) : Prop := match c with
  | .cv (.sc (.bool q)) => Br q (K ⟨x, [], [], []⟩) (K ⟨y, [], [], []⟩)
  | _ => False
theorem vPick_ok {nx : Nat} {K : Eff → Prop} {c x y : Operand} (ho : o.op = .pick c x y) (h : vPick (ev T c) (ev T x) (ev T y) K) : Does C o N T H nx K := by
  unfold vPick at h
  split at h
  · rename_i q hq
    have hm : ∀ z ∈ [c, x, y], z ∈ o.op.operands := by simp [ho, Op.operands]
    cases q with
    | true => exact does_val (h.1 rfl) fun T' H' h1 _ E a w ht _ => ⟨a.eval x, w, by have := rep_sc (rep_at ht (h1 c (hm c (by simp))) hq); simp [execOp, ho, this, asBool], rfl, rep_at ht (h1 x (hm x (by simp))) rfl⟩
    | false => exact does_val (h.2 rfl) fun T' H' h1 _ E a w ht _ => ⟨a.eval y, w, by have := rep_sc (rep_at ht (h1 c (hm c (by simp))) hq); simp [execOp, ho, this, asBool], rfl, rep_at ht (h1 y (hm y (by simp))) rfl⟩
  · exact h.elim

/-! operators -/
def vInt (op : BinOp) (k : IntKind) (a b : Int) (K : AV → Prop) : Prop := match op with
  | .add => ∃ z, k.wrap (a + b) = z ∧ K (iv k z)
  | .sub => ∃ z, k.wrap (a - b) = z ∧ K (iv k z)
  | .mul => ∃ z, k.wrap (a * b) = z ∧ K (iv k z)
  | .quo => b ≠ 0 ∧ ∃ z, k.wrap (a.tdiv b) = z ∧ K (iv k z)
  | .rem => b ≠ 0 ∧ ∃ z, a.tmod b = z ∧ K (iv k z)
  | .eql => K (bv (decide (a = b)))
  | .neq => K (bv (decide (a ≠ b)))
  | .lss => K (bv (decide (a < b)))
  | .leq => K (bv (decide (a ≤ b)))
  | .gtr => K (bv (decide (a > b)))
  | .geq => K (bv (decide (a ≥ b)))
  | .and | .or | .xor | .andNot => ∃ z, (∀ P w, (Op.intBits op k a b).run P w = .ok (.int k z) w) ∧ K (iv k z)
  | .shl | .shr => ∃ z, (∀ P w, (Op.shift op k a k b).run P w = .ok (.int k z) w) ∧ K (iv k z)
/-- is it a pointer at sight, and is it nil -/
def ptrNil : AV → Option Bool
  | .ptr .. | .cv (.rp _) => some false
  | .cv (.sc (.pointer none)) => some true
  | _ => none
theorem ptrNil_rep {w : World} {E : Emb} {x : AV} {u : Value} {q : Bool} (h : RepA w E x u) (hq : ptrNil x = some q) : ∃ p, u = .pointer p ∧ p.isNone = q := by
  unfold ptrNil at hq
  split at hq
  · cases hq; obtain ⟨_, e⟩ := rep_ptr h; exact ⟨_, e, rfl⟩
  · cases hq; obtain ⟨p, vs, e, _⟩ := rep_rp h; exact ⟨_, e, rfl⟩
  · cases hq; exact ⟨_, rep_sc h, rfl⟩
  · cases hq

def Ctx.kd (C : Ctx) (t : TypeId) : Option TK := (C.ti t).map fun i => i.kind
theorem kind_ok {t : TypeId} {kd : TK} (h : C.kd t = some kd) : ∃ d, C.P.underlying t = some d ∧ kindOk d kd := by
  unfold Ctx.kd at h
  cases hi : C.ti t with
  | none => rw [hi] at h; cases h
  | some i =>
    rw [hi] at h
    simp only [Option.map_some, Option.some.injEq] at h
    obtain ⟨d, h1, _, h3⟩ := (C.ok _ _ hi).und
    exact ⟨d, h1, h ▸ h3⟩

/-- a pointer beside nil -/
def vPtr (C : Ctx) (op : BinOp) (t : TypeId) (p q : Bool) (K : AV → Prop) : Prop := match C.kd t, p || q, op with
  | some (.ptr _), true, .eql => K (bv (p && q))
  | some (.ptr _), true, .neq => K (bv (!(p && q)))
  | _, _, _ => False
def vStr (op : BinOp) (s t : ByteArray) (K : AV → Prop) : Prop := match op with
  | .add => s.size + t.size ≤ 9223372036854775807 ∧ K (sv (s ++ t))
  | .eql => K (bv (s.toList == t.toList))
  | .neq => K (bv (!(s.toList == t.toList)))
  | _ => False
def vBool (C : Ctx) (op : BinOp) (t : TypeId) (a b : Bool) (K : AV → Prop) : Prop := match C.kd t, op with
  | some .bool, .eql => K (bv (a == b))
  | some .bool, .neq => K (bv (a != b))
  | _, _ => False
def vBin (C : Ctx) (op : BinOp) (t : TypeId) (x y : AV) (K : AV → Prop) : Prop := match x, y with
  | .cv (.sc (.bool a)), .cv (.sc (.bool b)) => vBool C op t a b K
  | .cv (.sc (.int k a)), .cv (.sc (.int k' b)) => ck (decide (k = k')) <| vInt op k a b K
  | .cv (.sc (.string s)), .cv (.sc (.string t)) => vStr op s t K
  | x, y => match ptrNil x, ptrNil y with
    | some p, some q => vPtr C op t p q K
    | _, _ => False
def vBinop (C : Ctx) (op : BinOp) (t : TypeId) (x y : AV) (K : Eff → Prop) : Prop := vBin C op t x y fun v => K ⟨v, [], [], []⟩

theorem bin_base {nx : Nat} {K : Eff → Prop} {op : BinOp} {t ty : TypeId} {x y : Operand} (ho : o.op = .binOp op t x y ty) {v : AV} (hk : K ⟨v, [], [], []⟩)
    (g : ∀ E (a : Act) w, RepA w E (ev T x) (a.eval x) → RepA w E (ev T y) (a.eval y) → ∃ u, (eqGuard op t x y (a.eval x) (a.eval y)).run C.P w = .ok () w ∧ (binOp op t (a.eval x) (a.eval y)).run C.P w = .ok u w ∧ RepA w E v u) : Does C o N T H nx K := by
  have mx : x ∈ o.op.operands := by simp [ho, Op.operands]
  have my : y ∈ o.op.operands := by simp [ho, Op.operands]
  refine does_val hk fun T' H' h1 _ E a w ht _ => ?_
  obtain ⟨u, hg, hu, hr⟩ := g E a w (rep_at ht (h1 x mx) rfl) (rep_at ht (h1 y my) rfl)
  refine ⟨u, w, ?_, rfl, hr⟩
  simp only [execOp, ho]
  rw [Sem.run_bind, Sem.run_bind, hg]
  simp only [Result.andThen_ok]
  rw [hu]; rfl
theorem bin_sc {nx : Nat} {K : Eff → Prop} {op : BinOp} {t ty : TypeId} {x y : Operand} (ho : o.op = .binOp op t x y ty) {v p q : Value} (hv : oneV v = true) (hk : K ⟨.cv (.sc v), [], [], []⟩) (hx : ev T x = .cv (.sc p)) (hy : ev T y = .cv (.sc q))
    (hg : ∀ w, (eqGuard op t x y p q).run C.P w = .ok () w) (g : ∀ w, (binOp op t p q).run C.P w = .ok v w) : Does C o N T H nx K :=
  bin_base ho hk fun E a w rx ry => by
    rw [hx] at rx; rw [hy] at ry
    rw [rep_sc rx, rep_sc ry]
    exact ⟨v, hg w, g w, .cv _ _ (.sc _ hv)⟩
theorem vInt_ok {nx : Nat} {K : Eff → Prop} {op : BinOp} {t ty : TypeId} {x y : Operand} (ho : o.op = .binOp op t x y ty) {k : IntKind} {i j : Int} (hx : ev T x = iv k i) (hy : ev T y = iv k j) (h : vInt op k i j fun v => K ⟨v, [], [], []⟩) : Does C o N T H nx K := by
  have go : ∀ {v : Value}, oneV v = true → K ⟨.cv (.sc v), [], [], []⟩ → (∀ w, (binOp op t (.int k i) (.int k j)).run C.P w = .ok v w) → Does C o N T H nx K := fun hv hk g =>
    bin_sc ho hv hk hx hy (fun w => by unfold eqGuard; cases op <;> rfl) g
  cases op <;> simp only [vInt] at h
  case add => obtain ⟨z, hz, h⟩ := h; exact go rfl h fun w => by simp [binOp, Op.intArith, hz]
  case sub => obtain ⟨z, hz, h⟩ := h; exact go rfl h fun w => by simp [binOp, Op.intArith, hz]
  case mul => obtain ⟨z, hz, h⟩ := h; exact go rfl h fun w => by simp [binOp, Op.intArith, hz]
  case quo => obtain ⟨h0, z, hz, h⟩ := h; exact go rfl h fun w => by simp [binOp, Op.intDiv, hz, h0]
  case rem => obtain ⟨h0, z, hz, h⟩ := h; exact go rfl h fun w => by simp [binOp, Op.intDiv, hz, h0]
  case eql => exact go rfl h fun w => by simp only [binOp, Op.intCmp, ne_eq, not_true_eq_false, if_false]; rfl
  case neq =>
    refine go rfl h fun w => ?_
    have : (i != j) = decide (i ≠ j) := by by_cases e : i = j <;> simp [e]
    rw [← this]; simp only [binOp, Op.intCmp, ne_eq, not_true_eq_false, if_false]; rfl
  case lss => exact go rfl h fun w => by simp [binOp, Op.intCmp]
  case leq => exact go rfl h fun w => by simp [binOp, Op.intCmp]
  case gtr => exact go rfl h fun w => by simp [binOp, Op.intCmp]
  case geq => exact go rfl h fun w => by simp [binOp, Op.intCmp]
  all_goals obtain ⟨z, hz, h⟩ := h; exact go rfl h fun w => by simpa [binOp] using hz C.P w
theorem vStr_ok {nx : Nat} {K : Eff → Prop} {op : BinOp} {t ty : TypeId} {x y : Operand} (ho : o.op = .binOp op t x y ty) {r s : ByteArray} (hx : ev T x = sv r) (hy : ev T y = sv s) (h : vStr op r s fun v => K ⟨v, [], [], []⟩) : Does C o N T H nx K := by
  have go : ∀ {v : Value}, oneV v = true → K ⟨.cv (.sc v), [], [], []⟩ → (∀ w, (binOp op t (.string r) (.string s)).run C.P w = .ok v w) → Does C o N T H nx K := fun hv hk g =>
    bin_sc ho hv hk hx hy (fun w => by unfold eqGuard; cases op <;> rfl) g
  cases op <;> simp only [vStr] at h
  case add =>
    refine go rfl h.2 fun w => ?_
    have := h.1
    simp only [binOp, Op.stringOp]
    rw [if_neg (by rw [show IntKind.i64.max = 9223372036854775807 from rfl]; omega)]; rfl
  case eql => exact go rfl h fun w => by simp [binOp, Op.stringOp]
  case neq => exact go rfl h fun w => by simp [binOp, Op.stringOp]
  all_goals exact h.elim
theorem vPtr_ok {nx : Nat} {K : Eff → Prop} {op : BinOp} {t ty : TypeId} {x y : Operand} (ho : o.op = .binOp op t x y ty) {p q : Bool} (hx : ptrNil (ev T x) = some p) (hy : ptrNil (ev T y) = some q) (h : vPtr C op t p q fun v => K ⟨v, [], [], []⟩) : Does C o N T H nx K := by
  have key : ∀ {e : TypeId} (hk : C.kd t = some (.ptr e)) (hpq : (p || q) = true) (a b : Option Addr) w, a.isNone = p → b.isNone = q → (Op.equal t (.pointer a) (.pointer b)).run C.P w = .ok (p && q) w := fun hk hpq a b w ha hb => by
    obtain ⟨d, u, rfl⟩ := kind_ok hk
    cases a <;> cases b <;> simp at ha hb <;> subst ha <;> subst hb <;> simp at hpq <;> (unfold Op.equal; rw [show Op.maxDepth = 9999 + 1 from rfl]; unfold Op.equalIn; rw [Sem.run_bind, run_underlying u]; rfl)
  unfold vPtr at h
  split at h
  · rename_i e1 e2
    refine bin_base ho h fun E a w rx ry => ?_
    obtain ⟨a1, ea, na⟩ := ptrNil_rep rx hx
    obtain ⟨b1, eb, nb⟩ := ptrNil_rep ry hy
    rw [ea, eb]
    refine ⟨.bool (p && q), by unfold eqGuard; rfl, ?_, .cv _ _ (.sc _ rfl)⟩
    simp only [binOp]
    rw [Sem.run_bind, key e1 e2 _ _ w na nb]; rfl
  · rename_i e1 e2
    refine bin_base ho h fun E a w rx ry => ?_
    obtain ⟨a1, ea, na⟩ := ptrNil_rep rx hx
    obtain ⟨b1, eb, nb⟩ := ptrNil_rep ry hy
    rw [ea, eb]
    refine ⟨.bool (!(p && q)), by unfold eqGuard; rfl, ?_, .cv _ _ (.sc _ rfl)⟩
    simp only [binOp]
    rw [Sem.run_bind, key e1 e2 _ _ w na nb]; rfl
  · exact h.elim
theorem vBool_ok {nx : Nat} {K : Eff → Prop} {op : BinOp} {t ty : TypeId} {x y : Operand} (ho : o.op = .binOp op t x y ty) {a b : Bool} (hx : ev T x = bv a) (hy : ev T y = bv b) (h : vBool C op t a b fun v => K ⟨v, [], [], []⟩) : Does C o N T H nx K := by
  have key : ∀ (hk : C.kd t = some .bool) w, (Op.equal t (.bool a) (.bool b)).run C.P w = .ok (a == b) w := fun hk w => by
    obtain ⟨d, e, rfl⟩ := kind_ok hk
    unfold Op.equal; rw [show Op.maxDepth = 9999 + 1 from rfl]; unfold Op.equalIn; rw [Sem.run_bind, run_underlying e]; rfl
  unfold vBool at h
  split at h
  · rename_i e1
    refine bin_sc ho rfl h hx hy (fun w => by unfold eqGuard; rfl) fun w => ?_
    simp only [binOp]
    rw [Sem.run_bind, key e1 w]; rfl
  · rename_i e1
    refine bin_sc ho rfl h hx hy (fun w => by unfold eqGuard; rfl) fun w => ?_
    simp only [binOp]
    rw [Sem.run_bind, key e1 w]; rfl
  · exact h.elim
theorem vBinop_ok {nx : Nat} {K : Eff → Prop} {op : BinOp} {t ty : TypeId} {x y : Operand} (ho : o.op = .binOp op t x y ty) (h : vBinop C op t (ev T x) (ev T y) K) : Does C o N T H nx K := by
  unfold vBinop vBin at h
  split at h
  · rename_i hx hy
    exact vBool_ok ho hx hy h
  · rename_i hx hy
    replace h := ck_out h
    obtain ⟨hk, h⟩ := h
    obtain rfl := of_decide_eq_true hk
    exact vInt_ok ho hx hy h
  · rename_i hx hy
    exact vStr_ok ho hx hy h
  · split at h
    · rename_i h1 h2
      exact vPtr_ok ho h1 h2 h
    · exact h.elim

/-- an interface beside the word nil -/
def ifcNil : AV → Option Bool
  | .ifc _ _ => some false
  | .cv (.ifc _ _) => some false
  | .cv (.sc .nilIface) => some true
  | _ => none
theorem ifcNil_rep {w : World} {E : Emb} {x : AV} {u : Value} {q : Bool} (h : RepA w E x u) (hq : ifcNil x = some q) : (u = .nilIface ∧ q = true) ∨ (∃ t v, u = .iface t v) ∧ q = false := by
  unfold ifcNil at hq
  split at hq
  · cases hq; obtain ⟨v, e, _⟩ := rep_ifc h; exact .inr ⟨⟨_, v, e⟩, rfl⟩
  · cases hq; cases h with | cv _ _ h => cases h with | ifc _ _ v _ => exact .inr ⟨⟨_, v, rfl⟩, rfl⟩
  · cases hq; exact .inl ⟨rep_sc h, rfl⟩
  · cases hq
def vNilI (C : Ctx) (op : BinOp) (t : TypeId) (x : AV) (K : Eff → Prop) : Prop := match C.kd t, ifcNil x, op with
  | some .iface, some q, .eql => K ⟨bv q, [], [], []⟩
  | some .iface, some q, .neq => K ⟨bv (!q), [], [], []⟩
  | _, _, _ => False
theorem vNilI_ok {nx : Nat} {K : Eff → Prop} {op : BinOp} {t ty : TypeId} {x : Operand} (ho : o.op = .binOp op t x (.const .nilIface) ty) (h : vNilI C op t (ev T x) K) : Does C o N T H nx K := by
  have key : ∀ (hk : C.kd t = some .iface) (q : Bool) (u : Value) (w : World), ((u = .nilIface ∧ q = true) ∨ (∃ t v, u = .iface t v) ∧ q = false) → (Op.equal t u .nilIface).run C.P w = .ok q w := fun hk q u w hu => by
    obtain ⟨d, e, m, rfl⟩ := kind_ok hk
    rcases hu with ⟨rfl, rfl⟩ | ⟨⟨_, _, rfl⟩, rfl⟩ <;> (unfold Op.equal; rw [show Op.maxDepth = 9999 + 1 from rfl]; unfold Op.equalIn; rw [Sem.run_bind, run_underlying e]; rfl)
  have guard : ∀ (u : Value) (q : Bool) (w : World), ((u = .nilIface ∧ q = true) ∨ (∃ t v, u = .iface t v) ∧ q = false) → (eqGuard op t x (.const .nilIface) u .nilIface).run C.P w = .ok () w := fun u q w hu => by
    rcases hu with ⟨rfl, rfl⟩ | ⟨⟨_, _, rfl⟩, rfl⟩ <;> (unfold eqGuard; cases op <;> simp <;> rfl)
  unfold vNilI at h
  split at h
  · rename_i q e1 e2
    refine bin_base ho h fun E a w rx _ => ?_
    have hu := ifcNil_rep rx e2
    refine ⟨.bool q, guard _ _ w hu, ?_, .cv _ _ (.sc _ rfl)⟩
    have hb : binOp .eql t (a.eval x) (a.eval (.const .nilIface)) = (do pure (.bool (← Op.equal t (a.eval x) .nilIface))) := by
      rcases hu with ⟨e, _⟩ | ⟨⟨_, _, e⟩, _⟩ <;> rw [e] <;> rfl
    rw [hb, Sem.run_bind, key e1 q _ w hu]; rfl
  · rename_i q e1 e2
    refine bin_base ho h fun E a w rx _ => ?_
    have hu := ifcNil_rep rx e2
    refine ⟨.bool (!q), guard _ _ w hu, ?_, .cv _ _ (.sc _ rfl)⟩
    have hb : binOp .neq t (a.eval x) (a.eval (.const .nilIface)) = (do pure (.bool (!(← Op.equal t (a.eval x) .nilIface)))) := by
      rcases hu with ⟨e, _⟩ | ⟨⟨_, _, e⟩, _⟩ <;> rw [e] <;> rfl
    rw [hb, Sem.run_bind, key e1 q _ w hu]; rfl
  · exact h.elim

def vUn (op : UnOp) (x : AV) (K : Eff → Prop) : Prop := match op, x with
  | .not, .cv (.sc (.bool q)) => K ⟨bv (!q), [], [], []⟩
  | .neg, .cv (.sc (.int k n)) => ∃ z, k.wrap (0 - n) = z ∧ K ⟨iv k z, [], [], []⟩
  | _, _ => False
theorem vUn_ok {nx : Nat} {K : Eff → Prop} {op : UnOp} {t : TypeId} {x : Operand} (ho : o.op = .unOp op t x) (h : vUn op (ev T x) K) : Does C o N T H nx K := by
  have mx : x ∈ o.op.operands := by simp [ho, Op.operands]
  unfold vUn at h
  split at h
  · rename_i q hx
    exact does_val h fun T' H' h1 _ E a w ht _ => ⟨_, w, by have := rep_sc (rep_at ht (h1 x mx) hx); simp only [execOp, ho, this, Op.unary]; rfl, rfl, .cv _ _ (.sc _ rfl)⟩
  · rename_i k n hx
    obtain ⟨z, hz, h⟩ := h
    exact does_val h fun T' H' h1 _ E a w ht _ => ⟨.int k z, w, by have := rep_sc (rep_at ht (h1 x mx) hx); simp only [execOp, ho, this, Op.unary, Op.intArith, hz]; rfl, rfl, .cv _ _ (.sc _ rfl)⟩
  · exact h.elim

/-- a conversion of whole numbers, or of a string to itself -/
def vConv (C : Ctx) (src dst : TypeId) (x : AV) (K : Eff → Prop) : Prop := match C.kd src, C.kd dst, x with
  | some (.int _), some (.int k), .cv (.sc (.int _ n)) => ∃ z, k.wrap n = z ∧ K ⟨iv k z, [], [], []⟩
  | some .str, some .str, .cv (.sc (.string s)) => K ⟨sv s, [], [], []⟩
  | _, _, _ => False
theorem vConv_ok {nx : Nat} {K : Eff → Prop} {src dst : TypeId} {x : Operand} (ho : o.op = .convert src dst x) (h : vConv C src dst (ev T x) K) : Does C o N T H nx K := by
  have mx : x ∈ o.op.operands := by simp [ho, Op.operands]
  unfold vConv at h
  split at h
  · rename_i k1 k2 k3 n e1 e2 hx
    obtain ⟨z, hz, h⟩ := h
    obtain ⟨_, u1, rfl⟩ := kind_ok e1
    obtain ⟨_, u2, rfl⟩ := kind_ok e2
    exact does_val h fun T' H' h1 _ E a w ht _ => ⟨.int k2 z, w, by have := rep_sc (rep_at ht (h1 x mx) hx); simp [execOp, ho, this, convert, underlying, u1, u2, Conv.intToInt, hz], rfl, .cv _ _ (.sc _ rfl)⟩
  · rename_i s e1 e2 hx
    obtain ⟨_, u1, rfl⟩ := kind_ok e1
    obtain ⟨_, u2, rfl⟩ := kind_ok e2
    exact does_val h fun T' H' h1 _ E a w ht _ => ⟨.string s, w, by have := rep_sc (rep_at ht (h1 x mx) hx); simp [execOp, ho, this, convert, underlying, u1, u2], rfl, .cv _ _ (.sc _ rfl)⟩
  · exact h.elim

def vExt (x : AV) (ix : Nat) (K : Eff → Prop) : Prop := match x with
  | .tup cs => match cs[ix]? with
    | some v => K ⟨v, [], [], []⟩
    | none => False
  | _ => False
theorem vExt_ok {nx : Nat} {K : Eff → Prop} {x : Operand} {ix : Nat} (ho : o.op = .extract x ix) (h : vExt (ev T x) ix K) : Does C o N T H nx K := by
  have mx : x ∈ o.op.operands := by simp [ho, Op.operands]
  unfold vExt at h
  split at h
  · rename_i cs hx
    split at h
    · rename_i v hv
      refine does_val h fun T' H' h1 _ E a w ht _ => ?_
      obtain ⟨vs, e, hs, hr⟩ := rep_tup (rep_at ht (h1 x mx) hx)
      have hlt : ix < vs.size := by rw [hs]; exact (List.getElem?_eq_some_iff.1 hv).1
      refine ⟨vs.getD ix undef, w, ?_, rfl, hr ix v hv⟩
      simp [execOp, ho, e, Instr.extract, hlt, Array.getD_eq_getD_getElem?]
    · exact h.elim
  · exact h.elim

def vIface (C : Ctx) (t : TypeId) (x : AV) (K : Eff → Prop) : Prop := match C.kd t with
  | none | some .iface | some .other => False
  | _ => match x with
    | .cv c => K ⟨.cv (.ifc t c), [], [], []⟩
    | .any => False
    | x => K ⟨.ifc t x, [], [], []⟩
theorem vIface_ok {nx : Nat} {K : Eff → Prop} {t : TypeId} {x : Operand} (ho : o.op = .makeInterface t x) (h : vIface C t (ev T x) K) : Does C o N T H nx K := by
  have mx : x ∈ o.op.operands := by simp [ho, Op.operands]
  have run : ∀ kd, C.kd t = some kd → kd ≠ .iface → kd ≠ .other → ∀ (a : Act) w, (execOp a.eval o).run C.P w = .ok (.value (.iface t (a.eval x))) w := fun kd hk n1 n2 a w => by
    obtain ⟨d, u, kk⟩ := kind_ok hk
    simp only [execOp, ho, Instr.makeInterface, Sem.run_bind, run_underlying u, Result.andThen_ok]
    cases d <;> first
      | rfl
      | (exfalso; cases kd <;> simp [kindOk] at kk <;> first | exact n1 rfl | exact n2 rfl)
  unfold vIface at h
  split at h
  · exact h.elim
  · exact h.elim
  · exact h.elim
  · rename_i k n1 n2 n3
    have run : ∀ (a : Act) w, (execOp a.eval o).run C.P w = .ok (.value (.iface t (a.eval x))) w := by
      cases hk : C.kd t with
      | none => exact (n1 hk).elim
      | some kd => exact run kd hk (fun e => n2 (e ▸ hk)) (fun e => n3 (e ▸ hk))
    split at h
    · rename_i c hx
      refine does_val h fun T' H' h1 _ E a w ht _ => ⟨_, w, run a w, rfl, ?_⟩
      have := rep_at ht (h1 x mx) hx
      cases this with | cv _ _ hc => exact .cv _ _ (.ifc _ _ _ hc)
    · exact h.elim
    · exact does_val h fun T' H' h1 _ E a w ht _ => ⟨_, w, run a w, rfl, .ifc _ _ _ (rep_at ht (h1 x mx) rfl)⟩

def vFunc (f : Fn) (fs cs : List AV) (K : Eff → Prop) : Prop := K ⟨.fn f fs cs, [], [], []⟩
theorem vFunc_ok {nx : Nat} {K : Eff → Prop} {f : Fn} {fs cs : Array Operand} (ho : o.op = .makeFunc f fs cs) (h : vFunc f (fs.toList.map (ev T)) (cs.toList.map (ev T)) K) : Does C o N T H nx K := by
  refine does_val h fun T' H' h1 _ E a w ht _ => ⟨.func f (fs.map a.eval) (cs.map a.eval), w, by simp [execOp, ho, Instr.makeFunc], rfl, .fn _ _ _ _ _ (by simp) (by simp) (fun k x hx => ?_) (fun k x hx => ?_)⟩
  · simp only [List.getElem?_map, Option.map_eq_some_iff] at hx
    obtain ⟨p, hp, rfl⟩ := hx
    have hp : fs[k]? = some p := by simpa using hp
    rw [Array.getD_eq_getD_getElem?, Array.getElem?_map, hp]
    exact rep_at ht (h1 p (by rw [ho]; simp only [Op.operands, Array.mem_append]; exact .inl (Array.mem_of_getElem? hp))) rfl
  · simp only [List.getElem?_map, Option.map_eq_some_iff] at hx
    obtain ⟨p, hp, rfl⟩ := hx
    have hp : cs[k]? = some p := by simpa using hp
    rw [Array.getD_eq_getD_getElem?, Array.getElem?_map, hp]
    exact rep_at ht (h1 p (by rw [ho]; simp only [Op.operands, Array.mem_append]; exact .inr (Array.mem_of_getElem? hp))) rfl

/-- a pointer, an interface's value or a function that is there -/
def vNil (x : AV) (K : Eff → Prop) : Prop := match x with
  | .ptr .. | .cv (.rp _) => K ⟨x, [], [], []⟩
  | .cv (.sc (.func (.func _) _ _)) => K ⟨x, [], [], []⟩
  | .fn (.func _) _ _ => K ⟨x, [], [], []⟩
  | _ => False
theorem vNil_ok {nx : Nat} {K : Eff → Prop} {x : Operand} (ho : o.op = .nilCheck x) (h : vNil (ev T x) K) : Does C o N T H nx K := by
  have mx : x ∈ o.op.operands := by simp [ho, Op.operands]
  unfold vNil at h
  split at h
  · rename_i hx
    refine does_val h fun T' H' h1 _ E a w ht _ => ?_
    have r := rep_at ht (h1 x mx) hx
    obtain ⟨_, e⟩ := rep_ptr r
    exact ⟨_, w, by simp [execOp, ho, e]; rfl, rfl, by rw [hx]; rw [e] at r; exact r⟩
  · rename_i hx
    refine does_val h fun T' H' h1 _ E a w ht _ => ?_
    have r := rep_at ht (h1 x mx) hx
    obtain ⟨p, vs, e, _⟩ := rep_rp r
    exact ⟨_, w, by simp [execOp, ho, e]; rfl, rfl, by rw [hx]; rw [e] at r; exact r⟩
  · rename_i hx
    refine does_val h fun T' H' h1 _ E a w ht _ => ?_
    have r := rep_at ht (h1 x mx) hx
    have e := rep_sc r
    exact ⟨_, w, by simp [execOp, ho, e]; rfl, rfl, by rw [hx]; rw [e] at r; exact r⟩
  · rename_i hx
    refine does_val h fun T' H' h1 _ E a w ht _ => ?_
    have r := rep_at ht (h1 x mx) hx
    rw [hx]
    cases hu : a.eval x <;> rw [hu] at r <;> cases r
    exact ⟨_, w, by simp [execOp, ho, hu]; rfl, rfl, by constructor <;> assumption⟩
  · exact h.elim
end
end Go.Proofs.Ytnffoddeppimkaa.AW
