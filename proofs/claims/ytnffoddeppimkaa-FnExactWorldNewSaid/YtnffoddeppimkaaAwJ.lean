/- A region as a condition on its operations, one behind the other. -/
import Derived.Test.YtnffoddeppimkaaAwI
namespace Go.Proofs.Ytnffoddeppimkaa.AW
open Go

/-! states as lists -/
def get : List (Nat × AV) → Nat → AV
  | [], _ => .any
  | (d, v) :: l, t => match Nat.beq t d with
    | true => v
    | false => get l t
def geth : List (Nat × Option Block) → Nat → Option Block
  | [], _ => none
  | (b, B) :: l, x => match Nat.beq x b with
    | true => B
    | false => geth l x
structure St where
  T : List (Nat × AV)
  H : List (Nat × Option Block)
  nx : Nat
def St.app (st : St) (d : Option Nat) (e : Eff) : St := ⟨match d with | none => st.T | some d => (d, e.v) :: st.T, e.wr.reverse ++ st.H, st.nx + e.nw.length⟩
theorem get_cons (d : Nat) (v : AV) (l : List (Nat × AV)) : get ((d, v) :: l) = setT (get l) (some d) v := by
  funext t
  simp only [get, setT]
  by_cases h : t = d
  · subst h; simp
  · rw [if_neg h]; cases hb : Nat.beq t d with
    | true => exact absurd (Nat.eq_of_beq_eq_true hb) h
    | false => rfl
theorem get_app (st : St) (d : Option Nat) (e : Eff) : get (st.app d e).T = setT (get st.T) d e.v := by
  cases d with
  | none => rfl
  | some d => exact get_cons d e.v st.T
theorem geth_cons (b : Nat) (B : Option Block) (l : List (Nat × Option Block)) : geth ((b, B) :: l) = setH (geth l) b B := by
  funext t
  simp only [geth, setH]
  by_cases h : t = b
  · subst h; simp
  · rw [if_neg h]; cases hb : Nat.beq t b with
    | true => exact absurd (Nat.eq_of_beq_eq_true hb) h
    | false => rfl
theorem geth_rev : ∀ (wr l : List (Nat × Option Block)), geth (wr.reverse ++ l) = updH (geth l) wr
  | [], _ => rfl
  | (b, B) :: wr, l => by
    rw [List.reverse_cons, List.append_assoc]
    show geth (wr.reverse ++ ((b, B) :: l)) = _
    rw [geth_rev wr ((b, B) :: l), geth_cons]; rfl
theorem geth_app (st : St) (d : Option Nat) (e : Eff) : geth (st.app d e).H = updH (geth st.H) e.wr := geth_rev _ _

structure FP where
  rd : List Nat
  wr : List Nat
def FP.of (e : Eff) : FP := ⟨e.rd, e.wr.map (·.1)⟩
/-! forced values: the same, told in full -/
def fV (v : Value) (K : Value → Prop) : Prop := match v with
  | .bool b => K (.bool b)
  | .int k n => K (.int k n)
  | .string s => K (.string s)
  | .slice a n c => K (.slice a n c)
  | .pointer a => K (.pointer a)
  | v => K v
theorem fV_eq {v : Value} {K : Value → Prop} : fV v K = K v := by unfold fV; split <;> rfl
def fN (n : Nat) (K : Nat → Prop) : Prop := match n with
  | 0 => K 0
  | n + 1 => K (n + 1)
theorem fN_eq {n : Nat} {K : Nat → Prop} : fN n K = K n := by cases n <;> rfl
def f0 (x : AV) (K : AV → Prop) : Prop := match x with
  | .cv (.sc v) => fV v fun v => K (.cv (.sc v))
  | .cv (.ro st es cap) => K (.cv (.ro st es cap))
  | .cv (.rp cs) => K (.cv (.rp cs))
  | .cv (.ifc t c) => K (.cv (.ifc t c))
  | .ptr b st i k => fN b fun b => fN st fun st => K (.ptr b st i k)
  | .own b st o n cap => fN b fun b => K (.own b st o n cap)
  | x => K x
theorem f0_eq {x : AV} {K : AV → Prop} : f0 x K = K x := by unfold f0; split <;> first | rfl | exact fV_eq | exact fN_eq.trans fN_eq | exact fN_eq
def fL (l : List AV) (K : List AV → Prop) : Prop := match l with
  | [] => K []
  | x :: l => f0 x fun x => fL l fun l => K (x :: l)
theorem fL_eq : ∀ {l : List AV} {K : List AV → Prop}, fL l K = K l
  | [], _ => rfl
  | x :: l, K => by simp only [fL]; rw [f0_eq, fL_eq]
def fA (x : AV) (K : AV → Prop) : Prop := match x with
  | .agg cs => fL cs fun cs => K (.agg cs)
  | .tup cs => fL cs fun cs => K (.tup cs)
  | .fn f fs cs => fL fs fun fs => fL cs fun cs => K (.fn f fs cs)
  | .ifc t v => f0 v fun v => K (.ifc t v)
  | x => f0 x K
theorem fA_eq {x : AV} {K : AV → Prop} : fA x K = K x := by
  unfold fA; split
  · exact fL_eq
  · exact fL_eq
  · rw [fL_eq, fL_eq]
  · exact f0_eq
  · exact f0_eq
def fB (B : Option Block) (K : Option Block → Prop) : Prop := match B with
  | some (.box cs) => fL cs fun cs => K (some (.box cs))
  | some (.row st es) => K (some (.row st es))
  | none => K none
theorem fB_eq {B : Option Block} {K : Option Block → Prop} : fB B K = K B := by unfold fB; split <;> first | rfl | exact fL_eq
def fH (wr H : List (Nat × Option Block)) (K : List (Nat × Option Block) → Prop) : Prop := match wr with
  | [] => K H
  | (b, B) :: wr => fN b fun b => fB B fun B => fH wr ((b, B) :: H) K
theorem fH_eq : ∀ {wr H : List (Nat × Option Block)} {K : List (Nat × Option Block) → Prop}, fH wr H K = K (wr.reverse ++ H)
  | [], _, _ => rfl
  | (b, B) :: wr, H, K => by simp only [fH]; rw [fN_eq, fB_eq, fH_eq]; simp
def fNm (wr : List (Nat × Option Block)) (K : List Nat → Prop) : Prop := match wr with
  | [] => K []
  | (b, _) :: l => fN b fun b => fNm l fun ns => K (b :: ns)
theorem fNm_eq : ∀ {wr : List (Nat × Option Block)} {K : List Nat → Prop}, fNm wr K = K (wr.map (·.1))
  | [], _ => rfl
  | (b, _) :: l, K => by simp only [fNm]; rw [fN_eq, fNm_eq]; rfl
def fW (wr : List (Nat × Option Block)) (nw : List Nat) (nx : Nat) (K : List Nat → Nat → Prop) : Prop := fNm wr fun ns => match nw with
  | [] => K ns nx
  | nw => fN (nx + nw.length) fun nx => K ns nx
theorem fW_eq {wr : List (Nat × Option Block)} {nw : List Nat} {nx : Nat} {K : List Nat → Nat → Prop} : fW wr nw nx K = K (wr.map (·.1)) (nx + nw.length) := by
  unfold fW; rw [fNm_eq]; split <;> first | rfl | exact fN_eq
def fS (st : St) (K : List (Nat × AV) → List (Nat × Option Block) → Nat → Prop) : Prop := match st with
  | ⟨T, H, nx⟩ => K T H nx
theorem fS_eq {st : St} {K : List (Nat × AV) → List (Nat × Option Block) → Nat → Prop} : fS st K = K st.T st.H st.nx := rfl
/-- the state behind an operation -/
def stepE (e : Eff) (st : St) (d : Option Nat) (K : St → FP → Prop) : Prop := match e, st with
  | ⟨v, wr, nw, rd⟩, ⟨T, H, nx⟩ => fA v fun v => fH wr H fun H => match d with
    | none => fW wr nw nx fun ns nx => K ⟨T, H, nx⟩ ⟨rd, ns⟩
    | some d => fW wr nw nx fun ns nx => K ⟨(d, v) :: T, H, nx⟩ ⟨rd, ns⟩
theorem stepE_eq {e : Eff} {st : St} {d : Option Nat} {K : St → FP → Prop} : stepE e st d K = K (st.app d e) (FP.of e) := by
  obtain ⟨v, wr, nw, rd⟩ := e
  obtain ⟨T, H, nx⟩ := st
  simp only [stepE]
  rw [fA_eq, fH_eq]
  cases d <;> exact fW_eq

/-! one operation -/
def callT (o : Oper) : Option (Callee × Array Operand × Array TypeId) := match o.op with
  | .call c => some (c.callee, c.args, c.argTypes)
  | _ => none
/-- a call: whatever is known of it -/
@[irreducible] def CallVC (C : Ctx) (o : Oper) (N : Nat) (T : Nat → AV) (H : Nat → Option Block) (nx : Nat) (K : Eff → Prop) : Prop := Does C o N T H nx K
def vBi (C : Ctx) (N : Nat) (o : Oper) (b : Builtin) (args : Array Operand) (ats : Array TypeId) (T : Nat → AV) (H : Nat → Option Block) (nx : Nat) (K : Eff → Prop) : Prop := match b, args.toList, ats.toList with
  | .len, [x], t :: _ => vLen C t (ev T x) K
  | .append, [x, y], [t0, t1] => vAppend C t0 t1 (ev T x) (ev T y) H nx K
  | _, _, _ => CallVC C o N T H nx K
def vop (C : Ctx) (N : Nat) (o : Oper) (T : Nat → AV) (H : Nat → Option Block) (nx : Nat) (K : Eff → Prop) : Prop := match o.op with
  | .move x => vMove (ev T x) K
  | .assign x => vMove (ev T x) K
  | .pick c x y => vPick (ev T c) (ev T x) (ev T y) K
  | .binOp op t x (.const .nilIface) _ => vNilI C op t (ev T x) K
  | .binOp op t x y _ => vBinop C op t (ev T x) (ev T y) K
  | .unOp op _ x => vUn op (ev T x) K
  | .convert s d x => vConv C s d (ev T x) K
  | .extract x ix => vExt (ev T x) ix K
  | .makeInterface t x => vIface C t (ev T x) K
  | .makeFunc f fs cs => vFunc f (fs.toList.map (ev T)) (cs.toList.map (ev T)) K
  | .nilCheck x => vNil (ev T x) K
  | .alloc t => vAlloc C t nx K
  | .box _ x => vBox (ev T x) nx K
  | .load t x => vLoad C t (ev T x) H K
  | .store t x v => vStore C t (ev T x) (ev T v) H K
  | .fieldAddr s x f => vFAddr C s (ev T x) f K
  | .field s x f => vField C s (ev T x) f K
  | .indexAddr t x ix => vIAddr C t (ev T x) (ev T ix) K
  | .index t x ix => vIndex C t (ev T x) (ev T ix) K
  | .slice t x lo hi mx => vSlice C t (ev T x) (lo.map (ev T)) (hi.map (ev T)) (mx.map (ev T)) K
  | .build t ps => vBuild C t (ps.toList.map fun p => (p.1, ev T p.2)) K
  | .buildSlice t len ps => vBuildS C t len (ps.toList.map fun p => (p.1, ev T p.2)) H nx K
  | .makeSlice t l c => vMakeS C t (ev T l) (ev T c) nx K
  | .call { callee := .builtin b, args, argTypes } => vBi C N o b args argTypes T H nx K
  | _ => CallVC C o N T H nx K
theorem list1 {α : Type} {a : Array α} {x : α} (h : a.toList = [x]) : a = #[x] := by apply Array.ext'; simpa using h
theorem list2 {α : Type} {a : Array α} {x y : α} (h : a.toList = [x, y]) : a = #[x, y] := by apply Array.ext'; simpa using h
theorem vop_ok {C : Ctx} {o : Oper} {N : Nat} {T : Nat → AV} {H : Nat → Option Block} {nx : Nat} {K : Eff → Prop} (h : vop C N o T H nx K) : Does C o N T H nx K := by
  unfold vop at h
  split at h
  case h_1 ho => exact vMove_ok (.inl ho) h
  case h_2 ho => exact vMove_ok (.inr ho) h
  case h_3 ho => exact vPick_ok ho h
  case h_4 ho => exact vNilI_ok ho h
  case h_5 ho => exact vBinop_ok ho h
  case h_6 ho => exact vUn_ok ho h
  case h_7 ho => exact vConv_ok ho h
  case h_8 ho => exact vExt_ok ho h
  case h_9 ho => exact vIface_ok ho h
  case h_10 ho => exact vFunc_ok ho h
  case h_11 ho => exact vNil_ok ho h
  case h_12 ho => exact vAlloc_ok ho h
  case h_13 ho => exact vBox_ok ho h
  case h_14 ho => exact vLoad_ok ho h
  case h_15 ho => exact vStore_ok ho h
  case h_16 ho => exact vFAddr_ok ho h
  case h_17 ho => exact vField_ok ho h
  case h_18 ho => exact vIAddr_ok ho h
  case h_19 ho => exact vIndex_ok ho h
  case h_20 ho => exact vSlice_ok ho h
  case h_21 ho => exact vBuild_ok ho h
  case h_22 ho => exact vBuildS_ok ho h
  case h_23 ho => exact vMakeS_ok ho h
  case h_24 b args ats ho =>
    unfold vBi at h
    split at h
    · rename_i x t l e1 e2
      have := list1 e1
      subst this
      exact vLen_ok ho (by rw [← Array.getElem?_toList, e2]; rfl) h
    · rename_i x y t0 t1 e1 e2
      have := list2 e1
      subst this
      exact vAppend_ok ho (list2 e2) h
    · unfold CallVC at h; exact h
  case h_25 => unfold CallVC at h; exact h

def apB (ops : Array Oper) (o o' : Oper) (f g : FP) : Bool :=
  o.apart ops o' && (f.wr.all (fun b => !g.rd.contains b && !g.wr.contains b) && g.wr.all (fun b => !f.rd.contains b))
def bef (ops : Array Oper) (j i : Nat) : Bool := ((Region.before ops).getD i 0).testBit j
def opAt (ops : Array Oper) (i : Nat) : Oper := ops.getD i default
def dstOk (N : Nat) (ops : Array Oper) : Bool := ops.toList.all fun o => match o.dst with | some d => decide (d < N) | none => true
def edgesOk (ops : Array Oper) : Bool := (List.range ops.size).all fun i => (opAt ops i).after.toList.all fun e => !Region.binds .any e || decide (e.on < i)
def pairsOk (ops : Array Oper) (fps : List FP) : Bool :=
  let B := Region.before ops
  (List.range ops.size).all fun i => (List.range i).all fun j => (B.getD i 0).testBit j || apB ops (opAt ops j) (opAt ops i) (fps.getD j ⟨[], []⟩) (fps.getD i ⟨[], []⟩)
def guardsOk (ops : Array Oper) : Bool := (List.range ops.size).all fun i => match (opAt ops i).guard with
  | none => true
  | some (j, _) => decide (j < i) && bef ops j i
def gsOk (ops : Array Oper) : Bool := ops.toList.all fun o => match o.guard with | some (j, _) => decide (j < ops.size) | none => true
def chk (N : Nat) (draw : Bool) (ops : Array Oper) (fps : List FP) : Bool := (dstOk N ops && gsOk ops) && (!draw || (edgesOk ops && guardsOk ops && pairsOk ops fps))

/-- a region's operations, one behind the other -/
def rg (C : Ctx) (N : Nat) (draw : Bool) (ops : Array Oper) : List Oper → List FP → St → (St → Prop) → Prop
  | [], done, st, K => chk N draw ops done.reverse = true ∧ K st
  | o :: l, done, st, K => fS st fun T H nx =>
    let on := vop C N o (get T) (geth H) nx fun e => stepE e ⟨T, H, nx⟩ o.dst fun st fp => rg C N draw ops l (fp :: done) st K
    let off := stepE offEnt.e ⟨T, H, nx⟩ o.dst fun st fp => rg C N draw ops l (fp :: done) st K
    match o.guard with
    | none => on
    | some (j, want) => match (opAt ops j).dst with
      | some d => match yv (get T d) with
        | some (some q) => match want with
          | true => Br q on off
          | false => Br q off on
        | some none => off
        | none => False
      | none => False

structure EntOk (C : Ctx) (N : Nat) (ops : Array Oper) (o : Oper) (t : Ent) (st : St) : Prop where
  guard : match o.guard with
    | none => t.on = true
    | some (j, want) => ∃ d r, (opAt ops j).dst = some d ∧ yv (get st.T d) = some r ∧ t.on = (r == some want)
  on : t.on = true → OpLoc C.P o N (get st.T) (geth st.H) t.e ∧ t.e.nw = List.range' st.nx t.e.nw.length
  off : t.on = false → t = offEnt
def Runs (C : Ctx) (N : Nat) (ops : Array Oper) : List Oper → List Ent → St → St → Prop
  | [], [], st, st' => st = st'
  | o :: l, t :: tab, st, st' => EntOk C N ops o t st ∧ Runs C N ops l tab (st.app o.dst t.e) st'
  | _, _, _, _ => False

theorem rg_out {C : Ctx} {N : Nat} {draw : Bool} {ops : Array Oper} : ∀ {todo : List Oper} {done : List FP} {st : St} {K : St → Prop}, rg C N draw ops todo done st K →
    ∃ tab st', tab.length = todo.length ∧ Runs C N ops todo tab st st' ∧ chk N draw ops (done.reverse ++ tab.map fun t => FP.of t.e) = true ∧ K st'
  | [], done, st, K, h => ⟨[], st, rfl, rfl, by simpa using h.1, h.2⟩
  | o :: l, done, st, K, h => by
    have on : ∀ (_ : vop C N o (get st.T) (geth st.H) st.nx fun e => stepE e st o.dst fun st fp => rg C N draw ops l (fp :: done) st K)
        (_ : match o.guard with | none => True | some (j, want) => ∃ d, (opAt ops j).dst = some d ∧ yv (get st.T d) = some (some want)), ∃ tab st', tab.length = (o :: l).length ∧ Runs C N ops (o :: l) tab st st' ∧ chk N draw ops (done.reverse ++ tab.map fun t => FP.of t.e) = true ∧ K st' := fun h hg => by
      obtain ⟨e, h1, h2, h3⟩ := vop_ok h
      rw [stepE_eq] at h3
      obtain ⟨tab, st', g1, g2, g3, g4⟩ := rg_out h3
      refine ⟨⟨true, e⟩ :: tab, st', by simp [g1], ⟨⟨?_, fun _ => ⟨h1, h2⟩, (fun h => by cases h)⟩, g2⟩, by simpa using g3, g4⟩
      split
      · rfl
      · rename_i j want hgu
        rw [hgu] at hg
        obtain ⟨d, e1, e2⟩ := hg
        exact ⟨d, _, e1, e2, by simp⟩
    have off : ∀ (_ : stepE offEnt.e st o.dst fun st fp => rg C N draw ops l (fp :: done) st K)
        (_ : match o.guard with | none => False | some (j, want) => ∃ d r, (opAt ops j).dst = some d ∧ yv (get st.T d) = some r ∧ (r == some want) = false), ∃ tab st', tab.length = (o :: l).length ∧ Runs C N ops (o :: l) tab st st' ∧ chk N draw ops (done.reverse ++ tab.map fun t => FP.of t.e) = true ∧ K st' := fun h hg => by
      rw [stepE_eq] at h
      obtain ⟨tab, st', g1, g2, g3, g4⟩ := rg_out h
      refine ⟨offEnt :: tab, st', by simp [g1], ⟨⟨?_, (fun h => by cases h), fun _ => rfl⟩, g2⟩, by simpa [offEnt, FP.of] using g3, g4⟩
      split
      · rename_i hgu; rw [hgu] at hg; exact hg.elim
      · rename_i j want hgu
        rw [hgu] at hg
        obtain ⟨d, r, e1, e2, e3⟩ := hg
        exact ⟨d, r, e1, e2, by simp [offEnt, e3]⟩
    simp only [rg, fS_eq] at h
    split at h
    · rename_i hgu
      exact on h (by rw [hgu]; trivial)
    · rename_i j want hgu
      split at h
      · rename_i d hd
        split at h
        · rename_i q hy
          cases want <;> simp only at h <;> cases q
          · exact on (h.2 rfl) (by rw [hgu]; exact ⟨d, hd, hy⟩)
          · exact off (h.1 rfl) (by rw [hgu]; exact ⟨d, _, hd, hy, rfl⟩)
          · exact off (h.2 rfl) (by rw [hgu]; exact ⟨d, _, hd, hy, rfl⟩)
          · exact on (h.1 rfl) (by rw [hgu]; exact ⟨d, hd, hy⟩)
        · rename_i hy
          exact off h (by rw [hgu]; exact ⟨d, _, hd, hy, rfl⟩)
        · exact h.elim
      · exact h.elim

/-! the order -/
theorem before_edge (ops : Array Oper) (he : edgesOk ops = true) : ∀ i j, i < ops.size → bef ops j i = true → ∃ e ∈ (opAt ops i).after, Region.binds .any e = true ∧ (j = e.on ∨ bef ops j e.on = true) := by
  -- the row of masks, operation by operation
  have fold : ∀ (es : List Edge) (acc : Array Nat) (s : Nat) (j : Nat), (es.foldl (fun s e => if Region.binds .any e then s ||| 2 ^ e.on ||| acc.getD e.on 0 else s) s).testBit j = true → s.testBit j = true ∨ ∃ e ∈ es, Region.binds .any e = true ∧ (j = e.on ∨ (acc.getD e.on 0).testBit j = true) := by
    intro es
    induction es with
    | nil => intro acc s j h; exact .inl h
    | cons e es ih =>
      intro acc s j h
      simp only [List.foldl_cons] at h
      rcases ih acc _ j h with h | ⟨e', h1, h2⟩
      · split at h
        · rename_i hb
          simp only [Nat.testBit_or, Bool.or_eq_true] at h
          rcases h with (h | h) | h
          · exact .inl h
          · refine .inr ⟨e, List.mem_cons_self .., hb, .inl ?_⟩
            rw [Nat.testBit_two_pow] at h
            simpa using (of_decide_eq_true h).symm
          · exact .inr ⟨e, List.mem_cons_self .., hb, .inr h⟩
        · exact .inl h
      · exact .inr ⟨e', List.mem_cons_of_mem _ h1, h2⟩
  let step := fun (acc : Array Nat) (o : Oper) => acc.push (o.after.foldl (fun s e => if Region.binds .any e then s ||| 2 ^ e.on ||| acc.getD e.on 0 else s) 0)
  have key : ∀ (l : List Oper) (acc : Array Nat), (l.foldl step acc).size = acc.size + l.length ∧ (∀ k, k < acc.size → (l.foldl step acc).getD k 0 = acc.getD k 0) ∧
      ∀ q o, l[q]? = some o → ∃ pre : Array Nat, pre.size = acc.size + q ∧ (∀ k, k < pre.size → pre.getD k 0 = (l.foldl step acc).getD k 0) ∧ (l.foldl step acc).getD (acc.size + q) 0 = o.after.foldl (fun s e => if Region.binds .any e then s ||| 2 ^ e.on ||| pre.getD e.on 0 else s) 0 := by
    intro l
    induction l with
    | nil => intro acc; simp
    | cons o l ih =>
      intro acc
      obtain ⟨h1, h2, h3⟩ := ih (step acc o)
      have hs : (step acc o).size = acc.size + 1 := by simp [step]
      have old : ∀ k, k < acc.size → (step acc o).getD k 0 = acc.getD k 0 := fun k hk => by
        simp only [step, Array.getD_eq_getD_getElem?, Array.getElem?_push]; rw [if_neg (by omega)]
      refine ⟨by simp only [List.foldl_cons, h1, hs, List.length_cons]; omega, fun k hk => by simp only [List.foldl_cons]; rw [h2 k (by omega), old k hk], fun q o' hq => ?_⟩
      cases q with
      | zero =>
        simp only [List.getElem?_cons_zero, Option.some.injEq] at hq
        subst hq
        refine ⟨acc, by simp, fun k hk => by simp only [List.foldl_cons]; rw [h2 k (by omega), old k hk], ?_⟩
        simp only [List.foldl_cons, Nat.add_zero]
        rw [h2 acc.size (by omega)]
        simp [step, Array.getD_eq_getD_getElem?]
      | succ q =>
        obtain ⟨pre, p1, p2, p3⟩ := h3 q o' (by simpa using hq)
        exact ⟨pre, by omega, p2, by simpa [hs, Nat.add_assoc, Nat.add_comm 1 q] using p3⟩
  intro i j hi hj
  have hb : Region.before ops = ops.toList.foldl step #[] := by simp only [Region.before, step]; rw [← Array.foldl_toList]
  obtain ⟨_, _, h3⟩ := key ops.toList #[]
  have ho : ops.toList[i]? = some (opAt ops i) := by simp [opAt, Array.getD_eq_getD_getElem?, hi]
  obtain ⟨pre, p1, p2, p3⟩ := h3 i _ ho
  simp only [bef, hb] at hj ⊢
  have p1 : pre.size = i := by simpa using p1
  rw [show (#[] : Array Nat).size + i = i by simp] at p3
  rw [p3, ← Array.foldl_toList] at hj
  rcases fold _ _ _ _ hj with h | ⟨e, h1, h2, h4⟩
  · simp at h
  · refine ⟨e, Array.mem_toList_iff.1 h1, h2, h4.imp id fun h4 => ?_⟩
    have hlt : e.on < i := by
      have := List.all_eq_true.1 he i (List.mem_range.2 hi)
      have := List.all_eq_true.1 this e h1
      simpa [h2] using this
    rw [← p2 e.on (by omega)]; exact h4

theorem before_ok (ops : Array Oper) (he : edgesOk ops = true) : Before ops (opAt ops) (bef ops) := by
  have edge : ∀ i, i < ops.size → ∀ e ∈ (opAt ops i).after, Region.binds .any e = true → e.on < i := fun i hi e h1 h2 => by
    have := List.all_eq_true.1 he i (List.mem_range.2 hi)
    have := List.all_eq_true.1 this e (Array.mem_toList_iff.2 h1)
    simpa [h2] using this
  refine ⟨edge, fun S i => ?_⟩
  induction i using Nat.strongRecOn with
  | _ i ih =>
    intro hi hS hr j hj
    obtain ⟨e, h1, h2, h3⟩ := before_edge ops he i j hi hj
    rcases h3 with rfl | h3
    · exact hr e h1 h2
    · have hlt := edge i hi e h1 h2
      exact ih e.on hlt (by omega) (fun k hk => hS k (by omega)) (fun e' h1' h2' => hS e.on hlt (hr e h1 h2) e' h1' h2') j h3
end Go.Proofs.Ytnffoddeppimkaa.AW
