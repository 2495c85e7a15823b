/- Operations: rows made, rows grown, lengths. -/
import Derived.Test.YtnffoddeppimkaaAwG
namespace Go.Proofs.Ytnffoddeppimkaa.AW
open Go

def RowRep (w : World) (pr : Nat → Prop) (st : Nat) (cells : Array Value) (es : List (List CV)) : Prop := ∀ i e k x, es[i]? = some e → e[k]? = some x → RepC w pr x (cells.getD (i * st + k) undef)

theorem Emb.frz_nm (E : Emb) (ns : List Nat) : ∀ b, E.U b → (E.frz ns).U b ∧ (E.frz ns).blk b = E.blk b ∧ (E.frz ns).sz b = E.sz b ∧ ((E.frz ns).gh b ↔ E.gh b) := fun _ h => ⟨h, rfl, rfl, .rfl⟩

section
variable {C : Ctx} {o : Oper} {N : Nat} {T : Nat → AV} {H : Nat → Option Block}

/-- a new row -/
theorem does_row {nx : Nat} {K : Eff → Prop} {st n : Nat} {cap : Option Nat} {es : List (List CV)} {ns ms : List Nat} (hst : ∀ e ∈ es, e.length = st) (hk : K ⟨.own nx st 0 n cap, gone ns ++ [(nx, some (.row st es))], [nx], ns ++ ms⟩) (hns : ∀ b ∈ ns, ∃ B, H b = some B)
    (h : ∀ T' H', (∀ x ∈ o.op.operands, ev T' x = ev T x) → (∀ b ∈ ns ++ ms, H' b = H b) → ∀ E a w, TInv N E T' a w → HInv E H' w →
      ∃ (cells : Array Value) (ty : TypeId) (c : Nat) (w' : World), (execOp a.eval o).run C.P w = .ok (.value (.slice (some ⟨w.heap.size, 0, none⟩) n c)) w' ∧ w'.heap = w.heap.push (.cells cells ty) ∧ SameIO w w' ∧ n ≤ c ∧ (∀ x, cap = some x → c = x) ∧ c * st ≤ cells.size ∧ es.length * st ≤ cells.size ∧
        RowRep w (E.frz ns).pr st cells es) : Does C o N T H nx K := by
  refine ⟨_, loc_mk fun T' H' h1 h2 E a w ht hh hf => ?_, rfl, hk⟩
  obtain ⟨cells, ty, c, w', hr, hw, hio, hnc, hcap, hc, hl, hrep⟩ := h T' H' h1 h2 E a w ht hh
  have hn : ¬ E.U nx := hf nx (by simp)
  obtain ⟨f1, f2⟩ := hh.frz ns fun b hb => by
    obtain ⟨B, hB⟩ := hns b hb
    exact ⟨B, (h2 b (List.mem_append.2 (.inl hb))).trans hB⟩
  have old : ∀ r, r < w.heap.size → w'.heap[r]? = w.heap[r]? := fun r hr => by rw [hw, Array.getElem?_push, if_neg (by omega)]
  have hb : ((E.frz ns).add nx w.heap.size cells.size).blk nx = w.heap.size := by simp [Emb.add]
  have hp : Plain w' w.heap.size cells := ⟨ty, 0, 0, by rw [hw]; simp, fun _ _ => by omega⟩
  obtain ⟨g1, g2⟩ := f1.alloc (w' := w') (b := nx) (B := .row st es) (s := cells.size) hn (by rw [hw]; simp) old hio (.inr ⟨by simp [Emb.add], cells, by rw [hb]; exact hp, by simp [Emb.add], hl, hst, fun i e k x hi hx =>
    (hrep i e k x hi hx).mono (fun r hr => old r (f1.frlt r (f1.prfr r hr))) (fun _ h => h)⟩)
  refine ⟨_, w', _, .inl hr, ?_, by rw [updH_app]; exact g1, f2.trans' g2 (fun _ h => h), fun b => by simp [Emb.add, Emb.frz, or_comm]⟩
  have := RepA.own (w := w') (E := (E.frz ns).add nx w.heap.size cells.size) nx st 0 n cap c (.inl rfl) (by simp [Emb.add]) hnc hcap (by simp [Emb.add]; exact hc)
  rw [hb] at this; simpa using this

def zeroC (i : TI) : List CV := i.zero.map .sc
theorem zeroC_len {t : TypeId} {i : TI} (hi : TIok C.P t i) : (zeroC i).length = i.sz := by simp [zeroC, hi.len]
theorem zeroC_rep {w : World} {pr : Nat → Prop} {t : TypeId} {i : TI} (hi : TIok C.P t i) {zs : Array Value} {len : Nat} (hz : ∀ q, q < len * i.sz → zs.getD q undef = i.zero.getD (q % i.sz) undef) : RowRep w pr i.sz zs (List.replicate len (zeroC i)) := by
  intro j e k x hj hx
  rw [List.getElem?_replicate] at hj
  split at hj
  case isFalse => cases hj
  rename_i hlt
  cases hj
  simp only [zeroC, List.getElem?_map, Option.map_eq_some_iff] at hx
  obtain ⟨v, hv, rfl⟩ := hx
  have hk : k < i.sz := hi.len ▸ (List.getElem?_eq_some_iff.1 hv).1
  have h1 : (j + 1) * i.sz ≤ len * i.sz := Nat.mul_le_mul_right _ hlt
  rw [Nat.succ_mul] at h1
  rw [hz _ (by omega), show j * i.sz + k = i.sz * j + k by rw [Nat.mul_comm], Nat.mul_add_mod, Nat.mod_eq_of_lt hk]
  have : i.zero.getD k undef = v := by simp [List.getD, hv]
  rw [this]; exact .sc _ (List.all_eq_true.1 hi.one v (List.mem_of_getElem? hv))
theorem zeros_get {z : Array Value} {n : Nat} (q : Nat) (hq : q < n) (hz : 0 < z.size) : ((Array.range n).map (z[· % z.size]!)).getD q undef = z.getD (q % z.size) undef := by
  have : q % z.size < z.size := Nat.mod_lt _ hz
  simp [Array.getD_eq_getD_getElem?, hq, this]

/-! a slice of parts -/
def vPartsR (sz len : Nat) (H : Nat → Option Block) : List (Nat × AV) → List (List CV) → List Nat → (List (List CV) → List Nat → Prop) → Prop
  | [], es, ns, K => K es ns
  | (f, x) :: l, es, ns, K => match cellsA x with
    | some cs => ck (cs.length == sz && decide (f < len)) <| vFrz H cs fun c ms => vPartsR sz len H l (es.set f c) (ns ++ ms) K
    | none => False
theorem vPartsR_out {sz len : Nat} : ∀ {ps : List (Nat × AV)} {es : List (List CV)} {ns : List Nat} {K : List (List CV) → List Nat → Prop}, vPartsR sz len H ps es ns K → es.length = len → (∀ e ∈ es, e.length = sz) → (∀ b ∈ ns, ∃ B, H b = some B) →
    ∃ r ms, K r ms ∧ r.length = len ∧ (∀ e ∈ r, e.length = sz) ∧ (∀ b ∈ ms, ∃ B, H b = some B) ∧ (∀ b ∈ ns, b ∈ ms) ∧
    ∀ (H' : Nat → Option Block), (∀ b ∈ ms, H' b = H b) → ∀ E w, HInv E H' w → ∀ (vs : List (Nat × Value)) (cells : Array Value), vs.length = ps.length → (∀ (k : Nat) (p : Nat × AV) (v : Nat × Value), ps[k]? = some p → vs[k]? = some v → p.1 = v.1 ∧ RepA w E p.2 v.2) → cells.size = len * sz →
      RowRep w (E.frz ms).pr sz cells es → ∃ cells', Instr.fill (fun i => some (i * sz, sz)) cells vs = some cells' ∧ cells'.size = len * sz ∧ RowRep w (E.frz ms).pr sz cells' r
  | [], es, ns, K, h, hl, he, hn => ⟨es, ns, h, hl, he, hn, fun _ h => h, fun H' _ E w _ vs cells hvl _ hs hr => by
      have : vs = [] := List.length_eq_zero_iff.1 hvl
      subst this
      exact ⟨cells, rfl, hs, hr⟩⟩
  | (f, x) :: l, es, ns, K, h, hl, he, hn => by
    simp only [vPartsR] at h
    split at h
    · rename_i cs hc
      replace h := ck_out h
      obtain ⟨hcl, h⟩ := h
      simp only [Bool.and_eq_true, beq_iff_eq, decide_eq_true_eq] at hcl
      obtain ⟨hcl, hf⟩ := hcl
      obtain ⟨c, ms1, h, hcz, hB, hcr⟩ := vFrz_out h
      obtain ⟨r, ms, hk, hrl, hre, hms, hsub, hr⟩ := vPartsR_out h (by simpa using hl) (fun e he' => by
        rcases List.mem_or_eq_of_mem_set he' with g | rfl
        · exact he e g
        · omega) (fun b hb => (List.mem_append.1 hb).elim (hn b) (hB b))
      refine ⟨r, ms, hk, hrl, hre, hms, fun b hb => hsub b (List.mem_append.2 (.inl hb)), fun H' hH E w hh vs cells hvl hvs hs hrep => ?_⟩
      cases vs with
      | nil => simp at hvl
      | cons v vs =>
        obtain ⟨e1, e2⟩ := hvs 0 _ v rfl rfl
        obtain ⟨g1, _, g3⟩ := cells_rep e2 hc
        obtain ⟨vi, vv⟩ := v
        simp only at e1 e2 g1 g3
        subst e1
        have hfl : (f + 1) * sz ≤ len * sz := Nat.mul_le_mul_right _ hf
        rw [Nat.succ_mul] at hfl
        obtain ⟨cells', q1, q2, q3⟩ := fill_one (v := vv) (cells := cells) (off := f * sz) (by rw [g1, hs, hcl]; exact hfl)
        simp only [Instr.fill]
        rw [if_neg (by simp [g1, hcl, hs]; omega)]
        have := hr H' hH E w hh vs cells' (by simpa using hvl) (fun k p v hp hv => hvs (k + 1) p v hp hv) (by rw [q2, hs]) (fun j e k y hj hy => by
          rw [List.getElem?_set] at hj
          by_cases ej : f = j
          · subst ej
            rw [if_pos rfl] at hj
            simp only [hl, hf, if_true, Option.some.injEq] at hj
            subst hj
            have hk := (List.getElem?_eq_some_iff.1 hy).1
            rw [q3, if_pos ⟨by omega, by omega⟩, show f * sz + k - f * sz = k by omega]
            obtain ⟨y', hy', hu⟩ := hcr H' (fun b hb => hH b (hsub b (List.mem_append.2 (.inr hb)))) E w hh (E.frz ms).pr (fun _ h => .inl h) (fun b hb hg => .inr ⟨b, hsub b (List.mem_append.2 (.inr hb)), hg, rfl⟩) k y hy
            exact hu _ (g3 k y' hy')
          · rw [if_neg ej] at hj
            have hjl := (List.getElem?_eq_some_iff.1 hj).1
            have hk : k < sz := (he e (List.mem_of_getElem? hj)) ▸ (List.getElem?_eq_some_iff.1 hy).1
            rw [q3, if_neg (by
              intro ⟨a1, a2⟩
              rcases Nat.lt_or_gt_of_ne ej with g | g
              · have : (f + 1) * sz ≤ j * sz := Nat.mul_le_mul_right _ g
                rw [Nat.succ_mul] at this; omega
              · have : (j + 1) * sz ≤ f * sz := Nat.mul_le_mul_right _ g
                rw [Nat.succ_mul] at this; omega)]
            exact hrep j e k y hj hy)
        rw [← q1] at this
        exact this
    · exact h.elim
def fI (i : TI) (K : Nat → Nat → Prop) : Prop := match i with
  | ⟨_, sz, by_, _, _⟩ => K sz by_
theorem fI_eq {i : TI} {K : Nat → Nat → Prop} : fI i K = K i.sz i.bytes := rfl
def vBuildS (C : Ctx) (t : TypeId) (len : Nat) (ps : List (Nat × AV)) (H : Nat → Option Block) (nx : Nat) (K : Eff → Prop) : Prop := match C.kd t with
  | some (.slice e) => match C.ti e with
    | some i => fI i fun sz _ => ck (decide (len * sz ≤ 16777216) && decide (0 < sz)) <| vPartsR sz len H ps (List.replicate len (zeroC i)) [] fun es ns => K ⟨.own nx sz 0 len (some len), gone ns ++ [(nx, some (.row sz es))], [nx], ns ++ []⟩
    | none => False
  | _ => False
theorem vBuildS_ok {nx : Nat} {K : Eff → Prop} {t : TypeId} {len : Nat} {ps : Array (Nat × Operand)} (ho : o.op = .buildSlice t len ps) (h : vBuildS C t len (ps.toList.map fun p => (p.1, ev T p.2)) H nx K) : Does C o N T H nx K := by
  unfold vBuildS at h
  split at h
  · rename_i e hk
    obtain ⟨d, u, rfl⟩ := kind_ok hk
    split at h
    · rename_i i hi
      rw [fI_eq] at h
      replace h := ck_out h
      obtain ⟨hb, h⟩ := h
      simp only [Bool.and_eq_true, decide_eq_true_eq] at hb
      obtain ⟨hb, hsz⟩ := hb
      have hz0 := zeroC_len (C.ok _ _ hi)
      obtain ⟨r, ms, hkr, hrl, hre, hms, _, hr⟩ := vPartsR_out h (by simp) (by simp; intro _; exact hz0) (by simp)
      refine does_row hre hkr hms fun T' H' g1 g2 E a w ht hh => ?_
      obtain ⟨z, hz, hz2⟩ := (C.ok _ _ hi).run_zero w
      have hs := (C.ok _ _ hi).run_sizeOf w
      have hzc := zero_cells hz2
      have hzs : z.cells.size = i.sz := by rw [hzc]; simpa using (C.ok _ _ hi).len
      obtain ⟨cells', q1, q2, q3⟩ := hr H' (fun b hb => g2 b (by simpa using hb)) E w hh (ps.toList.map fun p => (p.1, a.eval p.2)) ((Array.range (len * i.sz)).map ((if len * i.sz = 0 then #[] else z.cells)[· % (if len * i.sz = 0 then #[] else z.cells).size]!)) (by simp) (fun k p v hp hv => by
        simp only [List.getElem?_map, Option.map_eq_some_iff] at hp hv
        obtain ⟨p', hp', rfl⟩ := hp
        obtain ⟨v', hv', rfl⟩ := hv
        rw [hp'] at hv'; cases hv'
        refine ⟨rfl, rep_at ht (g1 p'.2 ?_) rfl⟩
        rw [ho]; simp only [Op.operands]
        exact Array.mem_toList_iff.1 (by simpa using ⟨p'.1, Array.mem_toList_iff.1 (List.mem_of_getElem? hp')⟩)) (by simp) (zeroC_rep (C.ok _ _ hi) fun q hq => by
          have : ¬ len * i.sz = 0 := by omega
          rw [if_neg this, zeros_get q hq (by omega), hzs, hzc]
          simp [List.getD, Array.getD_eq_getD_getElem?])
      refine ⟨cells', e, len, { w with heap := w.heap.push (.cells cells' e) }, ?_, rfl, ⟨rfl, rfl, rfl⟩, Nat.le_refl _, by simp, by omega, by rw [hrl]; omega, q3⟩
      have hp : (ps.map fun p => (p.1, a.eval p.2)).toList = ps.toList.map fun p => (p.1, a.eval p.2) := by simp
      simp only [execOp, ho, Instr.buildSlice, Sem.run_bind, Result.andThen_ok, run_underlying u, hs]
      rw [Sem.run_ite, if_neg (by omega)]
      simp only [Sem.run_pure, Result.andThen_ok, hp]
      by_cases h0 : len * i.sz = 0
      · simp only [h0, if_true, Sem.run_bind, Sem.run_pure, Result.andThen_ok] at q1 ⊢
        rw [q1]; rfl
      · simp only [h0, if_false, Sem.run_bind, hz, Sem.run_pure, Result.andThen_ok] at q1 ⊢
        rw [q1]; rfl
    · exact h.elim
  · exact h.elim

/-! make -/
def vMakeS (C : Ctx) (t : TypeId) (l c : AV) (nx : Nat) (K : Eff → Prop) : Prop := match C.kd t with
  | some (.slice e) => match C.ti e with
    | some i => fI i fun sz by_ => ck (decide (0 < sz)) <| AtNat l fun n => AtNat c fun m => n ≤ m ∧ m * by_ ≤ 281474976710656 ∧ m ≤ 281474976710656 ∧ K ⟨.own nx sz 0 n (some m), [(nx, some (.row sz (List.replicate n (zeroC i))))], [nx], []⟩
    | none => False
  | _ => False
theorem wrap64 {k : IntKind} {z : Int} (h1 : k.min ≤ z) (h2 : z ≤ k.max) : k.wrap z = z := by
  cases k <;> simp [IntKind.wrap, IntKind.min, IntKind.max, IntKind.bits, IntKind.signed] at * <;> omega
theorem vMakeS_ok {nx : Nat} {K : Eff → Prop} {t : TypeId} {l c : Operand} (ho : o.op = .makeSlice t l c) (h : vMakeS C t (ev T l) (ev T c) nx K) : Does C o N T H nx K := by
  have ml : l ∈ o.op.operands := by simp [ho, Op.operands]
  have mc : c ∈ o.op.operands := by simp [ho, Op.operands]
  unfold vMakeS at h
  split at h
  · rename_i e hk
    obtain ⟨d, u, rfl⟩ := kind_ok hk
    split at h
    · rename_i i hi
      rw [fI_eq] at h
      replace h := ck_out h
      obtain ⟨hsz, h⟩ := h
      have hsz : 0 < i.sz := by simpa using hsz
      obtain ⟨k1, n, hl, h⟩ := h.out
      obtain ⟨k2, m, hc, hnm, hb, hm, h⟩ := h.out
      have hz0 := zeroC_len (C.ok _ _ hi)
      refine does_row (ns := []) (ms := []) (by simp; intro _; exact hz0) h (by simp) fun T' H' g1 g2 E a w ht hh => ?_
      obtain ⟨z, hz, hz2⟩ := (C.ok _ _ hi).run_zero w
      have hs := (C.ok _ _ hi).run_sizeOf w
      obtain ⟨inf, hf1, hf2, hf3, _⟩ := (C.ok _ _ hi).run_typeInfo w
      have hzc := zero_cells hz2
      have hzs : z.cells.size = i.sz := by rw [hzc]; simpa using (C.ok _ _ hi).len
      have wn : IntKind.i64.wrap (n : Int) = n := wrap64 (by rw [show IntKind.i64.min = -9223372036854775808 from rfl]; omega) (by rw [show IntKind.i64.max = 9223372036854775807 from rfl]; omega)
      have wm : IntKind.i64.wrap (m : Int) = m := wrap64 (by rw [show IntKind.i64.min = -9223372036854775808 from rfl]; omega) (by rw [show IntKind.i64.max = 9223372036854775807 from rfl]; omega)
      have hbi : ¬ ((i.bytes : Int) * (m : Int) > 2 ^ 48) := by
        have e1 : ((i.bytes : Int) * (m : Int)) = ((m * i.bytes : Nat) : Int) := by rw [Int.natCast_mul, Int.mul_comm]
        rw [e1]; omega
      refine ⟨(Array.range (m * i.sz)).map ((if m * i.sz = 0 then #[] else z.cells)[· % (if m * i.sz = 0 then #[] else z.cells).size]!), e, m, { w with heap := w.heap.push (.cells ((Array.range (m * i.sz)).map ((if m * i.sz = 0 then #[] else z.cells)[· % (if m * i.sz = 0 then #[] else z.cells).size]!)) e) }, ?_, rfl, ⟨rfl, rfl, rfl⟩, hnm, by simp, by simp, by simp; exact Nat.mul_le_mul_right _ hnm, ?_⟩
      · simp only [execOp, ho, Instr.makeSlice, Sem.run_bind, Result.andThen_ok, run_underlying u, rep_sc (rep_at ht (g1 l ml) hl), rep_sc (rep_at ht (g1 c mc) hc), asInt, asIntOf, Sem.run_pure, hf1, hf3, wn, wm]
        have e0 : ¬ (m : Int) < 0 := by omega
        have e1 : ¬ (n : Int) < 0 := by omega
        have e2 : ¬ (n : Int) > (m : Int) := by omega
        simp only [e0, e1, e2, hbi, decide_false, Bool.or_false, Bool.false_eq_true, if_false, Sem.run_pure, Result.andThen_ok, Int.toNat_natCast]
        simp only [Sem.run_bind, run_askRoom, Result.andThen_ok, hs]
        by_cases h0 : m * i.sz = 0
        · simp only [h0, if_true, Sem.run_bind, Sem.run_pure, Result.andThen_ok]; rfl
        · simp only [h0, if_false, Sem.run_bind, hz, Sem.run_pure, Result.andThen_ok]; rfl
      · refine zeroC_rep (C.ok _ _ hi) fun q hq => ?_
        have hq' : q < m * i.sz := Nat.lt_of_lt_of_le hq (Nat.mul_le_mul_right _ hnm)
        have : ¬ m * i.sz = 0 := by omega
        rw [if_neg this, zeros_get q hq' (by omega), hzs, hzc]
        simp [List.getD, Array.getD_eq_getD_getElem?]
    · exact h.elim
  · exact h.elim

/-! len -/
def vLen (C : Ctx) (t : TypeId) (x : AV) (K : Eff → Prop) : Prop := match C.kd t, x with
  | some (.slice _), .own _ _ _ n _ => K ⟨iv .i64 n, [], [], []⟩
  | some (.slice _), .cv (.ro _ es _) => K ⟨iv .i64 es.length, [], [], []⟩
  | some (.slice _), .cv (.sc (.slice none 0 0)) => K ⟨iv .i64 0, [], [], []⟩
  | some .str, .cv (.sc (.string s)) => K ⟨iv .i64 s.size, [], [], []⟩
  | _, _ => False
theorem run_builtin {a : Act} {w : World} {b : Builtin} {args : Array Operand} {ats : Array TypeId} (ho : o.op = .call { callee := .builtin b, args := args, argTypes := ats }) :
    (execOp a.eval o).run C.P w = (builtin b ats o.type (args.map fun | .const _ => true | _ => false) (args.map a.eval)).run C.P w := by
  simp only [execOp, ho, resolve]
  rw [Sem.run_bind]
  rfl
theorem vLen_ok {nx : Nat} {K : Eff → Prop} {t : TypeId} {x : Operand} {ats : Array TypeId} (ho : o.op = .call { callee := .builtin .len, args := #[x], argTypes := ats }) (hat : ats[0]? = some t) (h : vLen C t (ev T x) K) : Does C o N T H nx K := by
  have mx : x ∈ o.op.operands := by simp [ho, Op.operands, Call.operands]
  unfold vLen at h
  split at h
  · rename_i e b st o' n cap hk hx
    obtain ⟨d, u, rfl⟩ := kind_ok hk
    refine does_val h fun T' H' g1 _ E a w ht _ => ?_
    obtain ⟨c, ad, e1, _⟩ := rep_own (rep_at ht (g1 x mx) hx)
    exact ⟨_, w, by rw [run_builtin ho]; simp [builtin, Builtin.len_, hat, e1, run_underlying u, goInt], rfl, .cv _ _ (.sc _ rfl)⟩
  · rename_i e st es cap hk hx
    obtain ⟨d, u, rfl⟩ := kind_ok hk
    refine does_val h fun T' H' g1 _ E a w ht _ => ?_
    obtain ⟨ad, n, c, vs, e1, hn, _⟩ := rep_ro (rep_at ht (g1 x mx) hx)
    exact ⟨_, w, by rw [run_builtin ho]; simp [builtin, Builtin.len_, hat, e1, run_underlying u, goInt, hn], rfl, .cv _ _ (.sc _ rfl)⟩
  · rename_i e hk hx
    obtain ⟨d, u, rfl⟩ := kind_ok hk
    refine does_val h fun T' H' g1 _ E a w ht _ => ?_
    exact ⟨_, w, by rw [run_builtin ho]; simp [builtin, Builtin.len_, hat, rep_sc (rep_at ht (g1 x mx) hx), run_underlying u, goInt], rfl, .cv _ _ (.sc _ rfl)⟩
  · rename_i s hk hx
    obtain ⟨d, u, rfl⟩ := kind_ok hk
    refine does_val h fun T' H' g1 _ E a w ht _ => ?_
    exact ⟨_, w, by rw [run_builtin ho]; simp [builtin, Builtin.len_, hat, rep_sc (rep_at ht (g1 x mx) hx), run_underlying u, goInt], rfl, .cv _ _ (.sc _ rfl)⟩
  · exact h.elim
end
end Go.Proofs.Ytnffoddeppimkaa.AW
