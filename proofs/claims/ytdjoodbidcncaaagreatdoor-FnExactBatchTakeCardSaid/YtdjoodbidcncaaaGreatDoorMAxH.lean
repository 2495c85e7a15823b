/- Operations: rows made, rows grown, lengths. -/
import Derived.Test.YtdjoodbidcncaaaGreatDoorMAxD
set_option linter.unusedVariables false
set_option linter.unusedSimpArgs false
namespace Go.Proofs.YtdjoodbidcncaaaGreatDoor.AW
open Go

def RowRep (w : World) (pr : Nat → Prop) (st : Nat) (cells : Array Value) (es : List (List CV)) : Prop := ∀ i e k x, es[i]? = some e → e[k]? = some x → RepC w pr x (cells.getD (i * st + k) undef)

section
variable {C : Ctx} {o : Oper} {N : Nat} {T : Nat → AV} {H : Nat → Option Block}

/-- a new row -/
theorem does_row {nx : Nat} {K : Eff → Prop} {st n : Nat} {cap : Option Nat} {es : List (List CV)} {ns ms : List Nat} (hst : ∀ e ∈ es, e.length = st) (hk : K ⟨.own nx st 0 n cap, gone ns ++ [(nx, some (.row st es))], [nx], ns ++ ms⟩) (hns : ∀ b ∈ ns, ∃ B, H b = some B)
    (h : ∀ T' H', (∀ x ∈ o.op.operands, ev T' x = ev T x) → (∀ b ∈ ns ++ ms, H' b = H b) → ∀ E a w, TInv N E T' a w → HInv E H' w →
      ∃ (cells : Array Value) (ty : TypeId) (c : Nat) (w' : World), (execOp a.eval o).run C.P w = .ok (.value (.slice (some ⟨w.heap.size, 0, none⟩) n c)) w' ∧ w'.heap = w.heap.push (.cells cells ty) ∧ SameIO w w' ∧ n ≤ c ∧ (∀ x, cap = some x → c = x) ∧ c * st ≤ cells.size ∧ es.length * st ≤ cells.size ∧
        RowRep w (E.frz ns).pr st cells es ∧ EvOk E w w' ((execOp a.eval o).events C.P w #[])) : Does C o N T H nx K := by
  refine ⟨_, loc_mk fun T' H' h1 h2 E a w ht hh hf => ?_, rfl, hk⟩
  obtain ⟨cells, ty, c, w', hr, hw, hio, hnc, hcap, hc, hl, hrep, hevs⟩ := h T' H' h1 h2 E a w ht hh
  have hn : ¬ E.U nx := hf nx (by simp)
  obtain ⟨f1, f2⟩ := hh.frz ns fun b hb => by
    obtain ⟨B, hB⟩ := hns b hb
    exact ⟨B, (h2 b (List.mem_append.2 (.inl hb))).trans hB⟩
  have old : ∀ r, r < w.heap.size → w'.heap[r]? = w.heap[r]? := fun r hr => by rw [hw, Array.getElem?_push, if_neg (by omega)]
  have hb : ((E.frz ns).add nx w.heap.size cells.size).blk nx = w.heap.size := by simp [Emb.add]
  have hp : Plain w' w.heap.size cells := ⟨ty, 0, 0, by rw [hw]; simp, fun _ _ => by omega⟩
  obtain ⟨g1, g2⟩ := f1.alloc (w' := w') (b := nx) (B := .row st es) (s := cells.size) hn (by rw [hw]; simp) old hio (.inr ⟨by simp [Emb.add], cells, by rw [hb]; exact hp, by simp [Emb.add], hl, hst, fun i e k x hi hx =>
    (hrep i e k x hi hx).mono (fun r hr => old r (f1.frlt r (f1.prfr r hr))) (fun _ h => h)⟩)
  refine ⟨_, w', _, .inl hr, ?_, by rw [updH_app]; exact g1, f2.trans' g2 (fun _ h => h), fun b => by simp [Emb.add, Emb.frz, or_comm], hevs⟩
  have := RepA.own (w := w') (E := (E.frz ns).add nx w.heap.size cells.size) nx st 0 n cap c (.inl rfl) (by simp [Emb.add]) hnc hcap (by simp [Emb.add]; exact hc)
  rw [hb] at this; simpa using this

def zeroC (i : TI) : List CV := i.zero.map .sc
theorem zeroC_len {t : TypeId} {i : TI} (hi : TIok C.P t i) : (zeroC i).length = i.sz := by simp [zeroC, hi.len]
theorem zeroC_rep {w : World} {pr : Nat → Prop} {t : TypeId} {i : TI} (hi : TIok C.P t i) {zs : Array Value} {len : Nat} (hz : ∀ q, q < len * i.sz → zs.getD q undef = i.zero.getD (q % i.sz) undef) : RowRep w pr i.sz zs (List.replicate len (zeroC i)) := by
  intro j e k x hj hx
  rw [List.getElem?_replicate] at hj
  split at hj
  case isFalse => cases hj
  rename_i hlt
  cases hj
  simp only [zeroC, List.getElem?_map, Option.map_eq_some_iff] at hx
  obtain ⟨v, hv, rfl⟩ := hx
  have hk : k < i.sz := hi.len ▸ (List.getElem?_eq_some_iff.1 hv).1
  have h1 : (j + 1) * i.sz ≤ len * i.sz := Nat.mul_le_mul_right _ hlt
  rw [Nat.succ_mul] at h1
  rw [hz _ (by omega), show j * i.sz + k = i.sz * j + k by rw [Nat.mul_comm], Nat.mul_add_mod, Nat.mod_eq_of_lt hk]
  have : i.zero.getD k undef = v := by simp [List.getD, hv]
  rw [this]; exact .sc _ (List.all_eq_true.1 hi.one v (List.mem_of_getElem? hv))
theorem zeros_get {z : Array Value} {n : Nat} (q : Nat) (hq : q < n) (hz : 0 < z.size) : ((Array.range n).map (z[· % z.size]!)).getD q undef = z.getD (q % z.size) undef := by
  have : q % z.size < z.size := Nat.mod_lt _ hz
  simp [Array.getD_eq_getD_getElem?, hq, this]

/-! a slice of parts -/
def vPartsR (sz len : Nat) (H : Nat → Option Block) : List (Nat × AV) → List (List CV) → List Nat → (List (List CV) → List Nat → Prop) → Prop
  | [], es, ns, K => K es ns
  | (f, x) :: l, es, ns, K => match cellsA x with
    | some cs => ck (cs.length == sz && decide (f < len)) <| vFrz H cs fun c ms => vPartsR sz len H l (es.set f c) (ns ++ ms) K
    | none => False
theorem vPartsR_out {sz len : Nat} : ∀ {ps : List (Nat × AV)} {es : List (List CV)} {ns : List Nat} {K : List (List CV) → List Nat → Prop}, vPartsR sz len H ps es ns K → es.length = len → (∀ e ∈ es, e.length = sz) → (∀ b ∈ ns, ∃ B, H b = some B) →
    ∃ r ms, K r ms ∧ r.length = len ∧ (∀ e ∈ r, e.length = sz) ∧ (∀ b ∈ ms, ∃ B, H b = some B) ∧ (∀ b ∈ ns, b ∈ ms) ∧
    ∀ (H' : Nat → Option Block), (∀ b ∈ ms, H' b = H b) → ∀ E w, HInv E H' w → ∀ (vs : List (Nat × Value)) (cells : Array Value), vs.length = ps.length → (∀ (k : Nat) (p : Nat × AV) (v : Nat × Value), ps[k]? = some p → vs[k]? = some v → p.1 = v.1 ∧ RepA w E p.2 v.2) → cells.size = len * sz →
      RowRep w (E.frz ms).pr sz cells es → ∃ cells', Instr.fill (fun i => some (i * sz, sz)) cells vs = some cells' ∧ cells'.size = len * sz ∧ RowRep w (E.frz ms).pr sz cells' r
  | [], es, ns, K, h, hl, he, hn => ⟨es, ns, h, hl, he, hn, fun _ h => h, fun H' _ E w _ vs cells hvl _ hs hr => by
      have : vs = [] := List.length_eq_zero_iff.1 hvl
      subst this
      exact ⟨cells, rfl, hs, hr⟩⟩
  | (f, x) :: l, es, ns, K, h, hl, he, hn => by
    simp only [vPartsR] at h
    split at h
    · rename_i cs hc
      replace h := ck_out h
      obtain ⟨hcl, h⟩ := h
      simp only [Bool.and_eq_true, beq_iff_eq, decide_eq_true_eq] at hcl
      obtain ⟨hcl, hf⟩ := hcl
      obtain ⟨c, ms1, h, hcz, hB, hcr⟩ := vFrz_out h
      obtain ⟨r, ms, hk, hrl, hre, hms, hsub, hr⟩ := vPartsR_out h (by simpa using hl) (fun e he' => by
        rcases List.mem_or_eq_of_mem_set he' with g | rfl
        · exact he e g
        · omega) (fun b hb => (List.mem_append.1 hb).elim (hn b) (hB b))
      refine ⟨r, ms, hk, hrl, hre, hms, fun b hb => hsub b (List.mem_append.2 (.inl hb)), fun H' hH E w hh vs cells hvl hvs hs hrep => ?_⟩
      cases vs with
      | nil => simp at hvl
      | cons v vs =>
        obtain ⟨e1, e2⟩ := hvs 0 _ v rfl rfl
        obtain ⟨g1, _, g3⟩ := cells_rep e2 hc
        obtain ⟨vi, vv⟩ := v
        simp only at e1 e2 g1 g3
        subst e1
        have hfl : (f + 1) * sz ≤ len * sz := Nat.mul_le_mul_right _ hf
        rw [Nat.succ_mul] at hfl
        obtain ⟨cells', q1, q2, q3⟩ := fill_one (v := vv) (cells := cells) (off := f * sz) (by rw [g1, hs, hcl]; exact hfl)
        simp only [Instr.fill]
        rw [if_neg (by simp [g1, hcl, hs]; omega)]
        have := hr H' hH E w hh vs cells' (by simpa using hvl) (fun k p v hp hv => hvs (k + 1) p v hp hv) (by rw [q2, hs]) (fun j e k y hj hy => by
          rw [List.getElem?_set] at hj
          by_cases ej : f = j
          · subst ej
            rw [if_pos rfl] at hj
            simp only [hl, hf, if_true, Option.some.injEq] at hj
            subst hj
            have hk := (List.getElem?_eq_some_iff.1 hy).1
            rw [q3, if_pos ⟨by omega, by omega⟩, show f * sz + k - f * sz = k by omega]
            obtain ⟨y', hy', hu⟩ := hcr H' (fun b hb => hH b (hsub b (List.mem_append.2 (.inr hb)))) E w hh (E.frz ms).pr (fun _ h => .inl h) (fun b hb hg => .inr ⟨b, hsub b (List.mem_append.2 (.inr hb)), hg, rfl⟩) k y hy
            exact hu _ (g3 k y' hy')
          · rw [if_neg ej] at hj
            have hjl := (List.getElem?_eq_some_iff.1 hj).1
            have hk : k < sz := (he e (List.mem_of_getElem? hj)) ▸ (List.getElem?_eq_some_iff.1 hy).1
            rw [q3, if_neg (by
              intro ⟨a1, a2⟩
              rcases Nat.lt_or_gt_of_ne ej with g | g
              · have : (f + 1) * sz ≤ j * sz := Nat.mul_le_mul_right _ g
                rw [Nat.succ_mul] at this; omega
              · have : (j + 1) * sz ≤ f * sz := Nat.mul_le_mul_right _ g
                rw [Nat.succ_mul] at this; omega)]
            exact hrep j e k y hj hy)
        rw [← q1] at this
        exact this
    · exact h.elim
def fI (i : TI) (K : Nat → Nat → Prop) : Prop := match i with
  | ⟨_, sz, by_, _, _⟩ => K sz by_
theorem fI_eq {i : TI} {K : Nat → Nat → Prop} : fI i K = K i.sz i.bytes := rfl
def vBuildS (C : Ctx) (t : TypeId) (len : Nat) (ps : List (Nat × AV)) (H : Nat → Option Block) (nx : Nat) (K : Eff → Prop) : Prop := match C.kd t with
  | some (.slice e) => match C.ti e with
    | some i => fI i fun sz _ => ck (decide (len * sz ≤ 16777216) && decide (0 < sz)) <| vPartsR sz len H ps (List.replicate len (zeroC i)) [] fun es ns => K ⟨.own nx sz 0 len (some len), gone ns ++ [(nx, some (.row sz es))], [nx], ns ++ []⟩
    | none => False
  | _ => False
theorem vBuildS_ok {nx : Nat} {K : Eff → Prop} {t : TypeId} {len : Nat} {ps : Array (Nat × Operand)} (ho : o.op = .buildSlice t len ps) (h : vBuildS C t len (ps.toList.map fun p => (p.1, ev T p.2)) H nx K) : Does C o N T H nx K := by
  have qo : ∀ ρ, Qt (execOp ρ o) := fun ρ => by simp only [execOp, ho]; exact .bind qt_buildS fun _ => .pure
  unfold vBuildS at h
  split at h
  · rename_i e hk
    obtain ⟨d, u, rfl⟩ := kind_ok hk
    split at h
    · rename_i i hi
      rw [fI_eq] at h
      replace h := ck_out h
      obtain ⟨hb, h⟩ := h
      simp only [Bool.and_eq_true, decide_eq_true_eq] at hb
      obtain ⟨hb, hsz⟩ := hb
      have hz0 := zeroC_len (C.ok _ _ hi)
      obtain ⟨r, ms, hkr, hrl, hre, hms, _, hr⟩ := vPartsR_out h (by simp) (by simp; intro _; exact hz0) (by simp)
      refine does_row hre hkr hms fun T' H' g1 g2 E a w ht hh => ?_
      obtain ⟨z, hz, hz2⟩ := (C.ok _ _ hi).run_zero w
      have hs := (C.ok _ _ hi).run_sizeOf w
      have hzc := zero_cells hz2
      have hzs : z.cells.size = i.sz := by rw [hzc]; simpa using (C.ok _ _ hi).len
      obtain ⟨cells', q1, q2, q3⟩ := hr H' (fun b hb => g2 b (by simpa using hb)) E w hh (ps.toList.map fun p => (p.1, a.eval p.2)) ((Array.range (len * i.sz)).map ((if len * i.sz = 0 then #[] else z.cells)[· % (if len * i.sz = 0 then #[] else z.cells).size]!)) (by simp) (fun k p v hp hv => by
        simp only [List.getElem?_map, Option.map_eq_some_iff] at hp hv
        obtain ⟨p', hp', rfl⟩ := hp
        obtain ⟨v', hv', rfl⟩ := hv
        rw [hp'] at hv'; cases hv'
        refine ⟨rfl, rep_at ht (g1 p'.2 ?_) rfl⟩
        rw [ho]; simp only [Op.operands]
        exact Array.mem_toList_iff.1 (by simpa using ⟨p'.1, Array.mem_toList_iff.1 (List.mem_of_getElem? hp')⟩)) (by simp) (zeroC_rep (C.ok _ _ hi) fun q hq => by
          have : ¬ len * i.sz = 0 := by omega
          rw [if_neg this, zeros_get q hq (by omega), hzs, hzc]
          simp [List.getD, Array.getD_eq_getD_getElem?])
      refine ⟨cells', e, len, { w with heap := w.heap.push (.cells cells' e) }, ?_, rfl, ⟨rfl, rfl, rfl⟩, Nat.le_refl _, by simp, by omega, by rw [hrl]; omega, q3, (qo _).ev⟩
      have hp : (ps.map fun p => (p.1, a.eval p.2)).toList = ps.toList.map fun p => (p.1, a.eval p.2) := by simp
      simp only [execOp, ho, Instr.buildSlice, Sem.run_bind, Result.andThen_ok, run_underlying u, hs]
      rw [Sem.run_ite, if_neg (by omega)]
      simp only [Sem.run_pure, Result.andThen_ok, hp]
      by_cases h0 : len * i.sz = 0
      · simp only [h0, if_true, Sem.run_bind, Sem.run_pure, Result.andThen_ok] at q1 ⊢
        rw [q1]; rfl
      · simp only [h0, if_false, Sem.run_bind, hz, Sem.run_pure, Result.andThen_ok] at q1 ⊢
        rw [q1]; rfl
    · exact h.elim
  · exact h.elim

/-! make -/
def vMakeS (C : Ctx) (t : TypeId) (l c : AV) (nx : Nat) (K : Eff → Prop) : Prop := match C.kd t with
  | some (.slice e) => match C.ti e with
    | some i => fI i fun sz by_ => ck (decide (0 < sz)) <| AtNat l fun n => AtNat c fun m => n ≤ m ∧ m * by_ ≤ 281474976710656 ∧ m ≤ 281474976710656 ∧ K ⟨.own nx sz 0 n (some m), [(nx, some (.row sz (List.replicate n (zeroC i))))], [nx], []⟩
    | none => False
  | _ => False
theorem wrap64 {k : IntKind} {z : Int} (h1 : k.min ≤ z) (h2 : z ≤ k.max) : k.wrap z = z := by
  cases k <;> simp [IntKind.wrap, IntKind.min, IntKind.max, IntKind.bits, IntKind.signed] at * <;> omega
theorem vMakeS_ok {nx : Nat} {K : Eff → Prop} {t : TypeId} {l c : Operand} (ho : o.op = .makeSlice t l c) (h : vMakeS C t (ev T l) (ev T c) nx K) : Does C o N T H nx K := by
  have qo : ∀ ρ, Qt (execOp ρ o) := fun ρ => by simp only [execOp, ho]; exact .bind qt_makeS fun _ => .pure
  have ml : l ∈ o.op.operands := by simp [ho, Op.operands]
  have mc : c ∈ o.op.operands := by simp [ho, Op.operands]
  unfold vMakeS at h
  split at h
  · rename_i e hk
    obtain ⟨d, u, rfl⟩ := kind_ok hk
    split at h
    · rename_i i hi
      rw [fI_eq] at h
      replace h := ck_out h
      obtain ⟨hsz, h⟩ := h
      have hsz : 0 < i.sz := by simpa using hsz
      obtain ⟨k1, n, hl, h⟩ := h.out
      obtain ⟨k2, m, hc, hnm, hb, hm, h⟩ := h.out
      have hz0 := zeroC_len (C.ok _ _ hi)
      refine does_row (ns := []) (ms := []) (by simp; intro _; exact hz0) h (by simp) fun T' H' g1 g2 E a w ht hh => ?_
      obtain ⟨z, hz, hz2⟩ := (C.ok _ _ hi).run_zero w
      have hs := (C.ok _ _ hi).run_sizeOf w
      obtain ⟨inf, hf1, hf2, hf3, _⟩ := (C.ok _ _ hi).run_typeInfo w
      have hzc := zero_cells hz2
      have hzs : z.cells.size = i.sz := by rw [hzc]; simpa using (C.ok _ _ hi).len
      have wn : IntKind.i64.wrap (n : Int) = n := wrap64 (by rw [show IntKind.i64.min = -9223372036854775808 from rfl]; omega) (by rw [show IntKind.i64.max = 9223372036854775807 from rfl]; omega)
      have wm : IntKind.i64.wrap (m : Int) = m := wrap64 (by rw [show IntKind.i64.min = -9223372036854775808 from rfl]; omega) (by rw [show IntKind.i64.max = 9223372036854775807 from rfl]; omega)
      have hbi : ¬ ((i.bytes : Int) * (m : Int) > 2 ^ 48) := by
        have e1 : ((i.bytes : Int) * (m : Int)) = ((m * i.bytes : Nat) : Int) := by rw [Int.natCast_mul, Int.mul_comm]
        rw [e1]; omega
      refine ⟨(Array.range (m * i.sz)).map ((if m * i.sz = 0 then #[] else z.cells)[· % (if m * i.sz = 0 then #[] else z.cells).size]!), e, m, { w with heap := w.heap.push (.cells ((Array.range (m * i.sz)).map ((if m * i.sz = 0 then #[] else z.cells)[· % (if m * i.sz = 0 then #[] else z.cells).size]!)) e) }, ?_, rfl, ⟨rfl, rfl, rfl⟩, hnm, by simp, by simp, by simp; exact Nat.mul_le_mul_right _ hnm, ?_, (qo _).ev⟩
      · simp only [execOp, ho, Instr.makeSlice, Sem.run_bind, Result.andThen_ok, run_underlying u, rep_sc (rep_at ht (g1 l ml) hl), rep_sc (rep_at ht (g1 c mc) hc), asInt, asIntOf, Sem.run_pure, hf1, hf3, wn, wm]
        have e0 : ¬ (m : Int) < 0 := by omega
        have e1 : ¬ (n : Int) < 0 := by omega
        have e2 : ¬ (n : Int) > (m : Int) := by omega
        simp only [e0, e1, e2, hbi, decide_false, Bool.or_false, Bool.false_eq_true, if_false, Sem.run_pure, Result.andThen_ok, Int.toNat_natCast]
        simp only [Sem.run_bind, run_askRoom, Result.andThen_ok, hs]
        by_cases h0 : m * i.sz = 0
        · simp only [h0, if_true, Sem.run_bind, Sem.run_pure, Result.andThen_ok]; rfl
        · simp only [h0, if_false, Sem.run_bind, hz, Sem.run_pure, Result.andThen_ok]; rfl
      · refine zeroC_rep (C.ok _ _ hi) fun q hq => ?_
        have hq' : q < m * i.sz := Nat.lt_of_lt_of_le hq (Nat.mul_le_mul_right _ hnm)
        have : ¬ m * i.sz = 0 := by omega
        rw [if_neg this, zeros_get q hq' (by omega), hzs, hzc]
        simp [List.getD, Array.getD_eq_getD_getElem?]
    · exact h.elim
  · exact h.elim

/-! len -/
def vLen (C : Ctx) (t : TypeId) (x : AV) (K : Eff → Prop) : Prop := match C.kd t, x with
  | some (.slice _), .own _ _ _ n _ => K ⟨iv .i64 n, [], [], []⟩
  | some (.slice _), .cv (.ro _ es _) => K ⟨iv .i64 es.length, [], [], []⟩
  | some (.slice _), .cv (.sc (.slice none 0 0)) => K ⟨iv .i64 0, [], [], []⟩
  | some .str, .cv (.sc (.string s)) => K ⟨iv .i64 s.size, [], [], []⟩
  | _, _ => False
theorem run_builtin {a : Act} {w : World} {b : Builtin} {args : Array Operand} {ats : Array TypeId} (ho : o.op = .call { callee := .builtin b, args := args, argTypes := ats }) :
    (execOp a.eval o).run C.P w = (builtin b ats o.type (args.map fun | .const _ => true | _ => false) (args.map a.eval)).run C.P w := by
  simp only [execOp, ho, resolve]
  rw [Sem.run_bind]
  rfl
theorem ev_builtin {a : Act} {w : World} {b : Builtin} {args : Array Operand} {ats : Array TypeId} (ho : o.op = .call { callee := .builtin b, args := args, argTypes := ats }) :
    (execOp a.eval o).events C.P w #[] = (builtin b ats o.type (args.map fun | .const _ => true | _ => false) (args.map a.eval)).events C.P w #[] := by
  simp only [execOp, ho, resolve]
  rw [Sem.events_bind]
  rfl
theorem vLen_ok {nx : Nat} {K : Eff → Prop} {t : TypeId} {x : Operand} {ats : Array TypeId} (ho : o.op = .call { callee := .builtin .len, args := #[x], argTypes := ats }) (hat : ats[0]? = some t) (h : vLen C t (ev T x) K) : Does C o N T H nx K := by
  have mx : x ∈ o.op.operands := by simp [ho, Op.operands, Call.operands]
  unfold vLen at h
  split at h
  · rename_i e b st o' n cap hk hx
    obtain ⟨d, u, rfl⟩ := kind_ok hk
    refine does_val h fun T' H' g1 _ E a w ht _ => ?_
    obtain ⟨c, ad, e1, _⟩ := rep_own (rep_at ht (g1 x mx) hx)
    exact ⟨_, w, by rw [run_builtin ho]; simp [builtin, Builtin.len_, hat, e1, run_underlying u, goInt], rfl, .cv _ _ (.sc _ rfl), .nil (by rw [ev_builtin ho]; simp [builtin, Builtin.len_, hat, e1, run_underlying u, goInt, evThen_last])⟩
  · rename_i e st es cap hk hx
    obtain ⟨d, u, rfl⟩ := kind_ok hk
    refine does_val h fun T' H' g1 _ E a w ht _ => ?_
    obtain ⟨ad, n, c, vs, e1, hn, _⟩ := rep_ro (rep_at ht (g1 x mx) hx)
    exact ⟨_, w, by rw [run_builtin ho]; simp [builtin, Builtin.len_, hat, e1, run_underlying u, goInt, hn], rfl, .cv _ _ (.sc _ rfl), .nil (by rw [ev_builtin ho]; simp [builtin, Builtin.len_, hat, e1, run_underlying u, goInt, hn, evThen_last])⟩
  · rename_i e hk hx
    obtain ⟨d, u, rfl⟩ := kind_ok hk
    refine does_val h fun T' H' g1 _ E a w ht _ => ?_
    exact ⟨_, w, by rw [run_builtin ho]; simp [builtin, Builtin.len_, hat, rep_sc (rep_at ht (g1 x mx) hx), run_underlying u, goInt], rfl, .cv _ _ (.sc _ rfl), .nil (by rw [ev_builtin ho]; simp [builtin, Builtin.len_, hat, rep_sc (rep_at ht (g1 x mx) hx), run_underlying u, goInt, evThen_last])⟩
  · rename_i s hk hx
    obtain ⟨d, u, rfl⟩ := kind_ok hk
    refine does_val h fun T' H' g1 _ E a w ht _ => ?_
    exact ⟨_, w, by rw [run_builtin ho]; simp [builtin, Builtin.len_, hat, rep_sc (rep_at ht (g1 x mx) hx), run_underlying u, goInt], rfl, .cv _ _ (.sc _ rfl), .nil (by rw [ev_builtin ho]; simp [builtin, Builtin.len_, hat, rep_sc (rep_at ht (g1 x mx) hx), run_underlying u, goInt, evThen_last])⟩
  · exact h.elim
end
end Go.Proofs.YtdjoodbidcncaaaGreatDoor.AW

/- Operations: append. -/
namespace Go.Proofs.YtdjoodbidcncaaaGreatDoor.AW
open Go

/-- one block under another name -/
def Emb.alias (E : Emb) (x b : Nat) : Emb := { E with blk := fun y => if y = x then E.blk b else E.blk y, sz := fun y => if y = x then E.sz b else E.sz y, U := fun y => y = x ∨ E.U y, gh := fun y => if y = x then E.gh b else E.gh y }
theorem Emb.alias_nm {E : Emb} {x b : Nat} (hx : ¬ E.U x) : ∀ y, E.U y → (E.alias x b).U y ∧ (E.alias x b).blk y = E.blk y ∧ (E.alias x b).sz y = E.sz y ∧ ((E.alias x b).gh y ↔ E.gh y) := fun y hy => by
  have : y ≠ x := fun e => hx (e ▸ hy)
  exact ⟨.inr hy, by simp [Emb.alias, this], by simp [Emb.alias, this], by simp [Emb.alias, this]⟩
theorem HInv.rename {E : Emb} {H : Nat → Option Block} {w : World} (h : HInv E H w) {b x : Nat} {B : Block} (hb : H b = some B) (hx : ¬ E.U x) : HInv (E.alias x b) (setH (setH H b none) x (some B)) w ∧ Ext E.U E w (E.alias x b) w := by
  have hxb : x ≠ b := fun e => hx (e ▸ (h.un b B hb).1)
  have fx : (E.alias x b).blk x = E.blk b ∧ (E.alias x b).sz x = E.sz b ∧ (E.alias x b).gh x = E.gh b := by simp [Emb.alias]
  have f : ∀ y Y, setH (setH H b none) x (some B) y = some Y → (y = x ∧ Y = B) ∨ (y ≠ x ∧ y ≠ b ∧ H y = some Y) := fun y Y hy => by
    by_cases e : y = x
    · left; simp [setH, e] at hy; exact ⟨e, hy.symm⟩
    · right
      by_cases e2 : y = b
      · subst e2; simp [setH, e] at hy
      · simp [setH, e, e2] at hy; exact ⟨e, e2, hy⟩
  refine ⟨⟨fun y Y hy => ?_, fun y Y hy => ?_, fun y z Y Z hy hz gy gz e => ?_, h.prfr, h.frlt⟩, ⟨fun _ _ => rfl, fun _ h => h, fun _ h => h, Nat.le_refl _, fun y hy => (Emb.alias_nm hx y hy).2, fun y hy hg => by
      by_cases e : y = x
      · subst e; right; rw [fx.2.2] at hg; exact ⟨b, (h.un b B hb).1, hg, fx.1⟩
      · right; have := hy.resolve_left e; obtain ⟨_, n2, _, n4⟩ := Emb.alias_nm (b := b) hx y this; exact ⟨y, this, fun g => hg (n4.2 g), n2⟩, fun _ h => .inl h, ⟨rfl, rfl, rfl⟩⟩⟩
  · rcases f y Y hy with ⟨rfl, rfl⟩ | ⟨e1, e2, hy⟩
    · have hB := h.hp b _ hb
      cases Y with
      | box cs =>
        obtain ⟨g, cells, p, q1, q2, q3⟩ := hB
        exact ⟨by rw [fx.2.2]; exact g, cells, by rw [fx.1]; exact p, by rw [fx.2.1]; exact q1, q2, fun k z hz => (q3 k z hz).mono (E := E) (E' := E.alias y b) (fun _ _ => rfl) (fun _ h => h) (Emb.alias_nm hx)⟩
      | row st es =>
        rcases hB with ⟨g, he⟩ | ⟨g, cells, p, q1, q2, q3, q4⟩
        · exact .inl ⟨by rw [fx.2.2]; exact g, he⟩
        · exact .inr ⟨by rw [fx.2.2]; exact g, cells, by rw [fx.1]; exact p, by rw [fx.2.1]; exact q1, q2, q3, q4⟩
      | mp es =>
        obtain ⟨g, ents, cl, p, q1, q2⟩ := hB
        exact ⟨by rw [fx.2.2]; exact g, ents, cl, by rw [fx.1]; exact p, q1, q2⟩
      | ch cap es shut =>
        obtain ⟨g, buf, s, r, tm, p, q1, q2⟩ := hB
        exact ⟨by rw [fx.2.2]; exact g, buf, s, r, tm, by rw [fx.1]; exact p, q1, q2⟩
    · exact (h.hp y Y hy).mono (E := E) (E' := E.alias x b) (fun _ _ => rfl) (fun _ h => h) (Emb.alias_nm hx) (h.un y Y hy).1 (fun _ => rfl)
  · rcases f y Y hy with ⟨rfl, rfl⟩ | ⟨e1, e2, hy⟩
    · refine ⟨.inl rfl, fun g => ?_⟩
      rw [fx.2.2] at g; rw [fx.1]
      exact (h.un b _ hb).2 g
    · obtain ⟨u, g⟩ := h.un y Y hy
      obtain ⟨n1, n2, n3, n4⟩ := Emb.alias_nm (b := b) hx y u
      exact ⟨n1, fun gy => by rw [n2]; exact g fun g' => gy (n4.2 g')⟩
  · have k : ∀ y Y, setH (setH H b none) x (some B) y = some Y → ¬ (E.alias x b).gh y → ∃ y', (E.alias x b).blk y = E.blk y' ∧ ¬ E.gh y' ∧ (∃ Y', H y' = some Y') ∧ (y = x ∧ y' = b ∨ y ≠ x ∧ y = y' ∧ y ≠ b) := fun y Y hy gy => by
      rcases f y Y hy with ⟨rfl, rfl⟩ | ⟨e1, e2, hy⟩
      · exact ⟨b, fx.1, by rw [fx.2.2] at gy; exact gy, ⟨_, hb⟩, .inl ⟨rfl, rfl⟩⟩
      · obtain ⟨n1, n2, n3, n4⟩ := Emb.alias_nm (b := b) hx y (h.un y Y hy).1
        exact ⟨y, n2, fun g => gy (n4.2 g), ⟨_, hy⟩, .inr ⟨e1, rfl, e2⟩⟩
    obtain ⟨y', a1, a2, ⟨Y', a3⟩, a4⟩ := k y Y hy gy
    obtain ⟨z', b1, b2, ⟨Z', b3⟩, b4⟩ := k z Z hz gz
    have := h.inj y' z' Y' Z' a3 b3 a2 b2 (a1 ▸ b1 ▸ e)
    rcases a4 with ⟨c1, c2⟩ | ⟨c1, c2, c3⟩ <;> rcases b4 with ⟨d1, d2⟩ | ⟨d1, d2, d3⟩
    · rw [c1, d1]
    · exact absurd (d2.trans (this.symm.trans c2)) d3
    · exact absurd (c2.trans (this.trans d2)) c3
    · rw [c2, d2, this]
/-- an empty row that has no block -/
def Emb.ghost (E : Emb) (x : Nat) : Emb := { E with U := fun y => y = x ∨ E.U y, gh := fun y => y = x ∨ E.gh y }
theorem HInv.ghost {E : Emb} {H : Nat → Option Block} {w : World} (h : HInv E H w) {x st : Nat} (hx : ¬ E.U x) : HInv (E.ghost x) (setH H x (some (.row st []))) w ∧ Ext E.U E w (E.ghost x) w := by
  have nm : ∀ y, E.U y → (E.ghost x).U y ∧ (E.ghost x).blk y = E.blk y ∧ (E.ghost x).sz y = E.sz y ∧ ((E.ghost x).gh y ↔ E.gh y) := fun y hy => by
    have : y ≠ x := fun e => hx (e ▸ hy)
    exact ⟨.inr hy, rfl, rfl, by simp [Emb.ghost, this]⟩
  have f : ∀ y Y, setH H x (some (.row st [])) y = some Y → (y = x ∧ Y = .row st []) ∨ (y ≠ x ∧ H y = some Y) := fun y Y hy => by
    by_cases e : y = x
    · left; simp [setH, e] at hy; exact ⟨e, hy.symm⟩
    · right; simp [setH, e] at hy; exact ⟨e, hy⟩
  refine ⟨⟨fun y Y hy => ?_, fun y Y hy => ?_, fun y z Y Z hy hz gy gz e => ?_, h.prfr, h.frlt⟩, ⟨fun _ _ => rfl, fun _ h => h, fun _ h => h, Nat.le_refl _, fun y hy => (nm y hy).2, fun y hy hg => .inr ⟨y, hy.resolve_left fun e => hg (.inl e), fun g => hg (.inr g), rfl⟩, fun _ h => .inl h, ⟨rfl, rfl, rfl⟩⟩⟩
  · rcases f y Y hy with ⟨rfl, rfl⟩ | ⟨e1, hy⟩
    · exact .inl ⟨.inl rfl, rfl⟩
    · exact (h.hp y Y hy).mono (E := E) (E' := E.ghost x) (fun _ _ => rfl) (fun _ h => h) nm (h.un y Y hy).1 (fun _ => rfl)
  · rcases f y Y hy with ⟨rfl, rfl⟩ | ⟨e1, hy⟩
    · exact ⟨.inl rfl, fun g => (g (.inl rfl)).elim⟩
    · obtain ⟨u, g⟩ := h.un y Y hy
      exact ⟨.inr u, fun gy => g fun g' => gy (.inr g')⟩
  · rcases f y Y hy with ⟨rfl, rfl⟩ | ⟨e1, hy⟩
    · exact (gy (.inl rfl)).elim
    · rcases f z Z hz with ⟨rfl, rfl⟩ | ⟨e2, hz⟩
      · exact (gz (.inl rfl)).elim
      · exact h.inj y z Y Z hy hz (fun g => gy (.inr g)) (fun g => gz (.inr g)) e

section
variable {C : Ctx} {o : Oper} {N : Nat} {T : Nat → AV} {H : Nat → Option Block}

/-- what is appended: elements, at sight -/
def vSrc (st : Nat) (H : Nat → Option Block) (y : AV) (K : List (List CV) → List Nat → Prop) : Prop := match y with
  | .own b st' o n _ => match H b with
    | some (.row st2 es) => ck (st == st' && st == st2) <| o + n ≤ es.length ∧ K ((es.drop o).take n) [b]
    | _ => False
  | .cv (.ro st' es _) => ck (st == st') <| K es []
  | .cv (.sc (.slice _ 0 _)) => K [] []
  | _ => False
/-- the cells of elements -/
def CellsOf (w : World) (pr : Nat → Prop) (st : Nat) (es : List (List CV)) (cells : Array Value) : Prop := cells.size = es.length * st ∧ (∀ u ∈ cells.toList, u.oneCell' = true) ∧ RowRep w pr st cells es
theorem oneC_rep {w : World} {pr : Nat → Prop} {x : CV} {v : Value} (h : RepC w pr x v) : v.oneCell' = true := by
  cases h with
  | sc v ho => cases v <;> first | rfl | (simp [oneV] at ho)
  | _ => rfl
theorem grid {st : Nat} {es : List (List CV)} {P : Nat → Prop} (hel : ∀ e ∈ es, e.length = st) (h : ∀ i e k x, es[i]? = some e → e[k]? = some x → P (i * st + k)) : ∀ q, q < es.length * st → P q := fun q hq => by
  have hst : 0 < st := Nat.pos_of_ne_zero fun e => by simp [e] at hq
  have hi : q / st < es.length := Nat.div_lt_of_lt_mul (by rwa [Nat.mul_comm] at hq)
  have hk : q % st < st := Nat.mod_lt _ hst
  have he := hel es[q / st] (List.getElem_mem hi)
  have := h (q / st) es[q / st] (q % st) (es[q / st][q % st]'(by omega)) (by simp) (by simp)
  rwa [show q / st * st + q % st = q by rw [Nat.mul_comm]; exact Nat.div_add_mod q st] at this
theorem ro_cells {st : Nat} {es : List (List CV)} {cap : Option Nat} {pr : Nat → Prop} {w : World} {v : Value} (hr : RepC w pr (.ro st es cap) v) : (∀ e ∈ es, e.length = st) ∧ ∃ cells, (Builtin.lenOf v).run C.P w = .ok es.length w ∧ (Builtin.firstCells st es.length v).run C.P w = .ok cells w ∧ CellsOf w pr st es cells := by
  cases hr with
  | ro _ _ _ a n c vs hn hc hcap hst hcell hrep =>
    refine ⟨hst, ?_⟩
    cases a with
    | none =>
      have : es = [] := by
        cases es with
        | nil => rfl
        | cons e l => obtain ⟨ad, e1, _⟩ := hcell 0 e rfl; cases e1
      subst this
      exact ⟨#[], by simp [Builtin.lenOf, hn], by simp [Builtin.firstCells], by simp, by simp, fun i e k x hi => by simp at hi⟩
    | some ad =>
      have cellq : ∀ q, q < es.length * st → w.cell? (ad.add q) = some (vs (q / st) (q % st)) := by
        refine grid hst fun i e k x hi hx => ?_
        obtain ⟨ad', e1, hsp, hp, hcl⟩ := hcell i e hi
        cases e1
        have hk : k < st := (hst e (List.mem_of_getElem? hi)) ▸ (List.getElem?_eq_some_iff.1 hx).1
        have := hcl k x hx
        rw [addr_add' hsp]
        simp only [cellAt] at this
        rw [this, show (i * st + k) / st = i by rw [Nat.mul_comm, Nat.mul_add_div (by omega)]; simp [Nat.div_eq_of_lt hk], show (i * st + k) % st = k by rw [Nat.mul_comm, Nat.mul_add_mod]; exact Nat.mod_eq_of_lt hk]
      have hrun := run_loadCells (P := C.P) w ad (es.length * st) (fun q => vs (q / st) (q % st)) cellq
      refine ⟨((List.range (es.length * st)).map fun q => vs (q / st) (q % st)).toArray, by simp [Builtin.lenOf, hn], by simp only [Builtin.firstCells]; exact hrun, by simp, fun u hu => ?_, fun i e k x hi hx => ?_⟩
      · simp only [List.mem_map, List.mem_range] at hu
        obtain ⟨q, hq, rfl⟩ := hu
        revert q
        refine grid hst fun i e k x hi hx => ?_
        have hk : k < st := (hst e (List.mem_of_getElem? hi)) ▸ (List.getElem?_eq_some_iff.1 hx).1
        rw [show (i * st + k) / st = i by rw [Nat.mul_comm, Nat.mul_add_div (by omega)]; simp [Nat.div_eq_of_lt hk], show (i * st + k) % st = k by rw [Nat.mul_comm, Nat.mul_add_mod]; exact Nat.mod_eq_of_lt hk]
        exact oneC_rep (hrep i e k x hi hx)
      · have hk : k < st := (hst e (List.mem_of_getElem? hi)) ▸ (List.getElem?_eq_some_iff.1 hx).1
        have hil := (List.getElem?_eq_some_iff.1 hi).1
        have h2 : (i + 1) * st ≤ es.length * st := Nat.mul_le_mul_right _ hil
        rw [Nat.succ_mul] at h2
        have : ((List.range (es.length * st)).map fun q => vs (q / st) (q % st)).toArray.getD (i * st + k) undef = vs i k := by
          simp only [Array.getD_eq_getD_getElem?, List.getElem?_toArray, List.getElem?_map, List.getElem?_range (show i * st + k < es.length * st by omega), Option.map_some, Option.getD_some]
          rw [show (i * st + k) / st = i by rw [Nat.mul_comm, Nat.mul_add_div (by omega)]; simp [Nat.div_eq_of_lt hk], show (i * st + k) % st = k by rw [Nat.mul_comm, Nat.mul_add_mod]; exact Nat.mod_eq_of_lt hk]
        rw [this]; exact hrep i e k x hi hx
theorem ro_ev {st : Nat} {es : List (List CV)} {cap : Option Nat} {pr : Nat → Prop} {w : World} {v : Value} (hr : RepC w pr (.ro st es cap) v) : ∀ ev ∈ (Builtin.firstCells st es.length v).events C.P w #[], ∃ r, pr r ∧ r < w.heap.size ∧ CellEv r ev := by
  cases hr with
  | ro _ _ _ a n c vs hn hc hcap hst hcell hrep =>
    intro ev hev
    cases a with
    | none => simp [Builtin.firstCells] at hev
    | some ad =>
      have cellq : ∀ q, q < es.length * st → ∃ u, w.cell? (ad.add q) = some u := by
        refine grid hst fun i e k x hi hx => ?_
        obtain ⟨ad', e1, hsp, hp, hcl⟩ := hcell i e hi
        cases e1
        rw [addr_add' hsp]
        exact ⟨_, hcl k x hx⟩
      simp only [Builtin.firstCells, loadCells] at hev
      have hc := (ev_loadCellsFrom (P := C.P) (es.length * st) 0 #[] w #[] (fun j hj => by simpa using cellq j hj) ev hev).resolve_left (by simp)
      by_cases h0 : es.length * st = 0
      · rw [h0] at hev; simp [loadCellsFrom] at hev
      · cases es with
        | nil => simp at h0
        | cons e l =>
          obtain ⟨ad', e1, hsp, hp, hcl⟩ := hcell 0 e rfl
          cases e1
          obtain ⟨u, hu⟩ := cellq 0 (by omega)
          rw [addr_add' hsp] at hu
          exact ⟨_, hp, cell_lt hu, hc⟩
theorem vSrc_out {st : Nat} {y : AV} {K : List (List CV) → List Nat → Prop} (h : vSrc st H y K) : ∃ es ms, K es ms ∧ (∀ (H' : Nat → Option Block), (∀ b ∈ ms, H' b = H b) → ∀ E w v, HInv E H' w → RepA w E y v →
    (∀ e ∈ es, e.length = st) ∧ EvOk E w w ((Builtin.firstCells st es.length v).events C.P w #[]) ∧ ∃ cells, (Builtin.lenOf v).run C.P w = .ok es.length w ∧ (Builtin.firstCells st es.length v).run C.P w = .ok cells w ∧ CellsOf w E.pr st es cells) := by
  unfold vSrc at h
  split at h
  · rename_i b st' o' n cap
    split at h
    · rename_i st2 es hb
      replace h := ck_out h
      obtain ⟨hs, hl, h⟩ := h
      simp only [Bool.and_eq_true, beq_iff_eq] at hs
      obtain ⟨rfl, rfl⟩ := hs
      refine ⟨_, _, h, fun H' hH E w v hh hr => ?_⟩
      have hro := own_ro hh ((hH b (by simp)).trans hb) hr hl (pr := fun r => E.pr r ∨ ¬ E.gh b ∧ r = E.blk b) (fun _ h => .inl h) (fun g => .inr ⟨g, rfl⟩)
      obtain ⟨g1, cells, g2, g3, g4, g5, g6⟩ := ro_cells (C := C) hro
      refine ⟨g1, fun ev hev => ?_, cells, g2, g3, g4, g5, fun i e k x hi hx => ?_⟩
      · obtain ⟨r, hp, hlt, ad, wr, he1, he2⟩ := ro_ev (C := C) hro ev hev
        refine .inr ⟨ad, wr, he1, ?_, he2 ▸ hlt⟩
        rcases hp with hp | ⟨hg, hp⟩
        · exact .inl (he2 ▸ hp)
        · exact .inr (.inl ⟨b, (rep_own hr).elim fun _ h => h.elim fun _ h => h.2.1, hg, he2.trans hp⟩)
      -- closed cells of a row rest on what was closed already
      rcases hh.hp b _ ((hH b (by simp)).trans hb) with ⟨_, he⟩ | ⟨hg, bc, p, q1, q2, q3, q4⟩
      · subst he; simp at hi
      · obtain ⟨c, ad, rfl, hU, hnc, hcap, hx'⟩ := rep_own hr
        rcases hx' with ⟨_, rfl, hsz⟩ | ⟨g, _⟩
        · have hi2 := (take_drop_get hi).1
          have hv := q4 (o' + i) e k x hi2 hx
          have hk : k < st := (q3 e (List.mem_of_getElem? hi2)) ▸ (List.getElem?_eq_some_iff.1 hx).1
          have hil := (List.getElem?_eq_some_iff.1 hi).1
          -- the cell that was loaded is the block's
          have hl2 := run_loadCells (P := C.P) w ⟨E.blk b, o' * st, none⟩ (((es.drop o').take n).length * st) (fun q => bc.getD (o' * st + q) undef) (fun q hq => by
            rw [addr_add, p.cell]
            have : ((es.drop o').take n).length ≤ es.length - o' := by simp; omega
            have h3 : ((es.drop o').take n).length * st + o' * st ≤ es.length * st := by
              rw [← Nat.add_mul]; exact Nat.mul_le_mul_right _ (by simp; omega)
            have hlt : o' * st + q < bc.size := by omega
            simp [Array.getD_eq_getD_getElem?, hlt])
          simp only [Builtin.firstCells] at g3
          rw [hl2] at g3
          cases g3
          have h2 : (i + 1) * st ≤ ((es.drop o').take n).length * st := Nat.mul_le_mul_right _ hil
          rw [Nat.succ_mul] at h2
          have : ((List.range (((es.drop o').take n).length * st)).map fun q => bc.getD (o' * st + q) undef).toArray.getD (i * st + k) undef = bc.getD ((o' + i) * st + k) undef := by
            simp only [Array.getD_eq_getD_getElem?, List.getElem?_toArray, List.getElem?_map, List.getElem?_range (show i * st + k < ((es.drop o').take n).length * st by omega), Option.map_some, Option.getD_some]
            rw [Nat.add_mul, Nat.add_assoc]
          rw [this]; exact hv
        · exact (hg g).elim
    · exact h.elim
  · rename_i st' es cap
    replace h := ck_out h
    obtain ⟨hs, h⟩ := h
    have hs : st = st' := by simpa using hs
    subst hs
    refine ⟨_, _, h, fun H' _ E w v hh hr => ?_⟩
    cases hr with
    | cv _ _ hr =>
      obtain ⟨g1, g2⟩ := ro_cells (C := C) hr
      exact ⟨g1, (fun ev hev => by obtain ⟨r, hp, hlt, ad, wr, he1, he2⟩ := ro_ev (C := C) hr ev hev; exact .inr ⟨ad, wr, he1, .inl (he2 ▸ hp), he2 ▸ hlt⟩), g2⟩
  · refine ⟨_, _, h, fun H' _ E w v hh hr => ?_⟩
    rw [rep_sc hr]
    rename_i a0 _ _
    exact ⟨by simp, .nil (by cases a0 <;> simp [Builtin.firstCells, loadCells, loadCellsFrom]), #[], by simp [Builtin.lenOf], by cases a0 <;> simp [Builtin.firstCells, loadCells, loadCellsFrom], by simp, by simp, fun i e k x hi => by simp at hi⟩
  · exact h.elim

/-- rows joined -/
theorem RowRep.append {w : World} {pr : Nat → Prop} {st : Nat} {es fs : List (List CV)} {a b c : Array Value} (ha : RowRep w pr st a es) (hb : RowRep w pr st b fs) (hl : a.size = es.length * st) (hbl : b.size = fs.length * st) (he : ∀ e ∈ es, e.length = st) (hf : ∀ e ∈ fs, e.length = st) : RowRep w pr st (a ++ b ++ c) (es ++ fs) := by
  intro i e k x hi hx
  rw [List.getElem?_append] at hi
  split at hi
  · rename_i hlt
    have hk : k < st := (he e (List.mem_of_getElem? hi)) ▸ (List.getElem?_eq_some_iff.1 hx).1
    have h2 : (i + 1) * st ≤ es.length * st := Nat.mul_le_mul_right _ hlt
    rw [Nat.succ_mul] at h2
    have : (a ++ b ++ c).getD (i * st + k) undef = a.getD (i * st + k) undef := by
      simp only [Array.getD_eq_getD_getElem?]
      rw [Array.append_assoc, Array.getElem?_append_left (by omega)]
    rw [this]; exact ha i e k x hi hx
  · rename_i hge
    have hlt := (List.getElem?_eq_some_iff.1 hi).1
    have hk : k < st := (hf e (List.mem_of_getElem? hi)) ▸ (List.getElem?_eq_some_iff.1 hx).1
    have h2 : (i - es.length + 1) * st ≤ fs.length * st := Nat.mul_le_mul_right _ hlt
    rw [Nat.succ_mul] at h2
    have h3 : i * st = es.length * st + (i - es.length) * st := by rw [← Nat.add_mul]; congr 1; omega
    have : (a ++ b ++ c).getD (i * st + k) undef = b.getD ((i - es.length) * st + k) undef := by
      simp only [Array.getD_eq_getD_getElem?]
      rw [Array.append_assoc, Array.getElem?_append_right (by omega), Array.getElem?_append_left (by omega)]
      congr 2; omega
    rw [this]; exact hb _ e k x hi hx
theorem growBy_le (need : Nat) : ∀ (r c : Nat), c ≤ 2 * need + 768 → Builtin.growBy need r c ≤ 2 * need + 768
  | 0, c, h => h
  | r + 1, c, h => by
    unfold Builtin.growBy
    split
    · exact h
    · exact growBy_le need r _ (by omega)
theorem nextslicecap_le {need old : Nat} (h : old < need) : Builtin.nextslicecap need old ≤ 2 * need + 768 := by
  unfold Builtin.nextslicecap
  split
  · omega
  · split
    · omega
    · exact growBy_le need 4 old (by omega)

def vAppend (C : Ctx) (t0 t1 : TypeId) (x y : AV) (H : Nat → Option Block) (nx : Nat) (K : Eff → Prop) : Prop := match C.kd t0, C.kd t1 with
  | some (.slice e), some (.slice _) => match C.ti e with
    | some i => ck (decide (0 < i.sz) && decide (0 < i.bytes)) <| vSrc i.sz H y fun src ms => match x with
      | .own b st o n cap => match H b with
        | some (.row st2 es) => ck (st == i.sz && st == st2 && o == 0 && !ms.contains b) <| n ≤ es.length ∧ (2 * (n + src.length) + 768) * i.bytes ≤ 281474976710656 ∧
            K ⟨.own nx st 0 (n + src.length) none, [(b, none), (nx, some (.row st (es.take n ++ src)))], [nx], b :: ms⟩
        | _ => False
      | .cv (.sc (.slice none 0 0)) => (2 * src.length + 768) * i.bytes ≤ 281474976710656 ∧ K ⟨.own nx i.sz 0 src.length none, [(nx, some (.row i.sz src))], [nx], ms⟩
      | .cv (.ro st es cap) => ck (st == i.sz) <| (cap = some 0 ∨ ∃ c, cap = some c ∧ c < es.length + src.length) ∧ (2 * (es.length + src.length) + 768) * i.bytes ≤ 281474976710656 ∧
            K ⟨.own nx i.sz 0 (es.length + src.length) none, [(nx, some (.row i.sz (es ++ src)))], [nx], ms⟩
      | _ => False
    | none => False
  | _, _ => False

/-- the slice grows in new memory -/
theorem run_grow {w : World} {t0 t1 e e' ty : TypeId} {i : TI} (hi : TIok C.P e i) (u0 : C.P.underlying t0 = some (.slice e)) (u1 : C.P.underlying t1 = some (.slice e')) {a : Option Addr} {n c k : Nat} {v : Value} {old new : Array Value}
    (hl : (Builtin.lenOf v).run C.P w = .ok k w) (hold : (Builtin.firstCells i.sz n (.slice a n c)).run C.P w.drew = .ok old w.drew) (hnew : (Builtin.firstCells i.sz k v).run C.P w.drew = .ok new w.drew)
    (hpos : 0 < i.bytes) (hc : c < n + k) (hb : (2 * (n + k) + 768) * i.bytes ≤ 281474976710656) (ho : old.size = n * i.sz) (hn : new.size = k * i.sz) :
    ∃ (rest : Array Value) (c' : Nat), (Builtin.append_ #[t0, t1] ty #[.slice a n c, v]).run C.P w = .ok (.slice (some ⟨w.heap.size, 0, none⟩) (n + k) c') (w.drew.alloc (.cells (old ++ new ++ rest) e)) ∧ n + k ≤ c' ∧ c' * i.sz ≤ (old ++ new ++ rest).size := by
  have hs := hi.run_sizeOf w
  obtain ⟨inf, hf1, hf2, hf3, hf4⟩ := hi.run_typeInfo w
  obtain ⟨inf', hf1', hf2', hf3', hf4'⟩ := hi.run_typeInfo w.drew
  obtain ⟨z, hz, hz2⟩ := hi.run_zero w.drew
  have hzs : z.cells.size = i.sz := by rw [zero_cells hz2]; simpa using hi.len
  have hcap : Builtin.nextslicecap (n + k) c * i.bytes ≤ 281474976710656 := Nat.le_trans (Nat.mul_le_mul_right _ (nextslicecap_le hc)) hb
  obtain ⟨q, hq, hqe⟩ : ∃ q, n + k ≤ q ∧ (Question.appendCap (n + k) c e).cut (w.tape w.drawn (.appendCap (n + k) c e)) = q := ⟨_, by simp [Question.cut], rfl⟩
  refine ⟨Builtin.zeroCells z.cells (q - (n + k)), q, ?_, hq, ?_⟩
  · have e1 : ¬ n + k ≤ c := by omega
    have e2 : ¬ Builtin.nextslicecap (n + k) c * i.bytes > 2 ^ 48 := by omega
    simp only [Builtin.append_, List.getElem?_toArray, List.getElem?_cons_zero, List.getElem?_cons_succ, Sem.run_bind, Sem.run_pure, Result.andThen_ok, run_underlying u0, run_underlying u1, hs, hl]
    simp only [Bool.false_eq_true, if_false, Sem.run_pure, Result.andThen_ok, Sem.run_bind, Sem.run_ite, hl, e1]
    have e3 : ¬ ((n : Int) + (k : Int) > 9223372036854775807) := by
      have : n + k ≤ (2 * (n + k) + 768) * i.bytes := Nat.le_trans (by omega) (Nat.le_mul_of_pos_right (2 * (n + k) + 768) hpos)
      omega
    have e4 : ¬ (281474976710656 < Builtin.nextslicecap (n + k) c * i.bytes) := by omega
    simp [hf1, hf1', hf3, hf3', e3, e4, Question.forced, hqe, hold, hnew, hz, newRow, show IntKind.i64.max = 9223372036854775807 from rfl]
  · simp only [Array.size_append, ho, hn, Builtin.zeroCells, Array.size_map, Array.size_range, hzs]
    rw [← Nat.add_mul, ← Nat.add_mul]
    exact Nat.mul_le_mul_right _ (by omega)
/-- the slice has room -/
theorem run_room {w w' : World} {t0 t1 e e' ty : TypeId} {i : TI} (hi : TIok C.P e i) (u0 : C.P.underlying t0 = some (.slice e)) (u1 : C.P.underlying t1 = some (.slice e')) {a : Option Addr} {n c k : Nat} {v : Value} {new : Array Value}
    (hl : (Builtin.lenOf v).run C.P w = .ok k w) (hnew : (Builtin.firstCells i.sz k v).run C.P w = .ok new w)
    (hc : n + k ≤ c) (hst : match a with | none => w' = w | some p => (storeCells (p.add (n * i.sz)) new.toList).run C.P w = .ok () w') : (Builtin.append_ #[t0, t1] ty #[.slice a n c, v]).run C.P w = .ok (.slice a (n + k) c) w' := by
  have hs := hi.run_sizeOf w
  simp only [Builtin.append_, List.getElem?_toArray, List.getElem?_cons_zero, List.getElem?_cons_succ, Sem.run_bind, Sem.run_pure, Result.andThen_ok, run_underlying u0, run_underlying u1, hs, hl]
  simp only [Bool.false_eq_true, if_false, Sem.run_pure, Result.andThen_ok, Sem.run_bind, Sem.run_ite, hl, hc, if_true, Bool.not_false, hnew]
  cases a with
  | none => simp only at hst; subst hst; simp
  | some p => simp only at hst; simp [hst]

theorem ev_lenOf {P : Program} {v : Value} {w : World} {es : Array Event} : (Builtin.lenOf v).events P w es = es := by cases v <;> simp [Builtin.lenOf]
theorem ev_grow {w : World} {t0 t1 e e' ty : TypeId} {i : TI} (hi : TIok C.P e i) (u0 : C.P.underlying t0 = some (.slice e)) (u1 : C.P.underlying t1 = some (.slice e')) {a : Option Addr} {n c k : Nat} {v : Value} {old new : Array Value}
    (hl : (Builtin.lenOf v).run C.P w = .ok k w) (hold : (Builtin.firstCells i.sz n (.slice a n c)).run C.P w.drew = .ok old w.drew) (hnew : (Builtin.firstCells i.sz k v).run C.P w.drew = .ok new w.drew)
    (hpos : 0 < i.bytes) (hc : c < n + k) (hb : (2 * (n + k) + 768) * i.bytes ≤ 281474976710656) {ev : Event} (h : ev ∈ (Builtin.append_ #[t0, t1] ty #[.slice a n c, v]).events C.P w #[]) :
    ev = ⟨.mark .noRoom, false, true⟩ ∨ ev ∈ (Builtin.firstCells i.sz n (.slice a n c)).events C.P w.drew #[] ∨ ev ∈ (Builtin.firstCells i.sz k v).events C.P w.drew #[] := by
  have hs := hi.run_sizeOf w
  obtain ⟨inf, hf1, hf2, hf3, hf4⟩ := hi.run_typeInfo w
  obtain ⟨inf', hf1', hf2', hf3', hf4'⟩ := hi.run_typeInfo w.drew
  have hcap : Builtin.nextslicecap (n + k) c * i.bytes ≤ 281474976710656 := Nat.le_trans (Nat.mul_le_mul_right _ (nextslicecap_le hc)) hb
  have e1 : ¬ n + k ≤ c := by omega
  have e2 : ¬ Builtin.nextslicecap (n + k) c * i.bytes > 2 ^ 48 := by omega
  have e3 : ¬ ((n : Int) + (k : Int) > 9223372036854775807) := by
    have : n + k ≤ (2 * (n + k) + 768) * i.bytes := Nat.le_trans (by omega) (Nat.le_mul_of_pos_right (2 * (n + k) + 768) hpos)
    omega
  have e4 : ¬ (281474976710656 < Builtin.nextslicecap (n + k) c * i.bytes) := by omega
  obtain ⟨q, hqe⟩ : ∃ q, (Question.appendCap (n + k) c e).cut (w.tape w.drawn (.appendCap (n + k) c e)) = q := ⟨_, rfl⟩
  simp only [Builtin.append_, List.getElem?_toArray, List.getElem?_cons_zero, List.getElem?_cons_succ, Sem.events_bind, Sem.run_bind, Sem.events_pure, Sem.run_pure, Result.andThen_ok, Result.evThen_ok, events_underlying, events_sizeOf, run_underlying u0, run_underlying u1, hs, hl] at h
  simp only [Bool.false_eq_true, if_false, Sem.run_pure, Result.andThen_ok, Sem.events_bind, Sem.run_bind, Sem.run_ite, hl, e1, ev_lenOf, Result.evThen_ok] at h
  simp [hf1, hf1', hf3, hf3', e3, e4, Question.forced, hqe, hold, hnew, newRow, show IntKind.i64.max = 9223372036854775807 from rfl, evThen_last] at h
  rw [Sem.events_acc] at h
  rcases Array.mem_append.1 h with h | h
  · rw [Sem.events_acc] at h
    rcases Array.mem_append.1 h with h | h
    · exact .inl (qt_room _ _ _ h)
    · exact .inr (.inl h)
  · exact .inr (.inr h)
theorem ev_room {w : World} {t0 t1 e e' ty : TypeId} {i : TI} (hi : TIok C.P e i) (u0 : C.P.underlying t0 = some (.slice e)) (u1 : C.P.underlying t1 = some (.slice e')) {a : Option Addr} {n c k : Nat} {v : Value} {new : Array Value}
    (hl : (Builtin.lenOf v).run C.P w = .ok k w) (hnew : (Builtin.firstCells i.sz k v).run C.P w = .ok new w)
    (hc : n + k ≤ c) {ev : Event} (h : ev ∈ (Builtin.append_ #[t0, t1] ty #[.slice a n c, v]).events C.P w #[]) : ev ∈ (Builtin.firstCells i.sz k v).events C.P w #[] ∨ ∃ p, a = some p ∧ ev ∈ (storeCells (p.add (n * i.sz)) new.toList).events C.P w #[] := by
  have hs := hi.run_sizeOf w
  simp only [Builtin.append_, List.getElem?_toArray, List.getElem?_cons_zero, List.getElem?_cons_succ, Sem.events_bind, Sem.run_bind, Sem.events_pure, Sem.run_pure, Result.andThen_ok, Result.evThen_ok, events_underlying, events_sizeOf, run_underlying u0, run_underlying u1, hs, hl] at h
  simp only [Bool.false_eq_true, if_false, Sem.run_pure, Result.andThen_ok, Sem.events_bind, Sem.run_bind, Sem.run_ite, hl, hc, if_true, Bool.not_false, hnew, ev_lenOf, Result.evThen_ok] at h
  cases a with
  | none => simp at h; exact .inl h
  | some p =>
    simp [evThen_last] at h
    rw [Sem.events_acc] at h
    exact (Array.mem_append.1 h).imp id fun h => ⟨p, rfl, h⟩
theorem RowRep.mono {w w' : World} {pr pr' : Nat → Prop} {st : Nat} {cells : Array Value} {es : List (List CV)} (h : RowRep w pr st cells es) (hk : ∀ r, pr r → w'.heap[r]? = w.heap[r]?) (hp : ∀ r, pr r → pr' r) : RowRep w' pr' st cells es :=
  fun i e k x hi hx => (h i e k x hi hx).mono hk hp
theorem drew_heap (w : World) : w.drew.heap = w.heap := rfl
theorem HInv.drew {E : Emb} {H : Nat → Option Block} {w : World} (h : HInv E H w) : HInv E H w.drew := (h.same (w' := w.drew) rfl ⟨rfl, rfl, rfl⟩).1

set_option maxHeartbeats 1000000 in
/-- an empty base (or one whose room is known to be too small) -/
theorem append_new {nx : Nat} {K : Eff → Prop} {t0 t1 e e' : TypeId} {i : TI} {x y : Operand} {ats : Array TypeId} {es src : List (List CV)} {ms : List Nat} (ho : o.op = .call { callee := .builtin .append, args := #[x, y], argTypes := ats }) (hat : ats = #[t0, t1])
    (u0 : C.P.underlying t0 = some (.slice e)) (u1 : C.P.underlying t1 = some (.slice e')) (hi : C.ti e = some i) (hpos : 0 < i.bytes) (hb : (2 * (es.length + src.length) + 768) * i.bytes ≤ 281474976710656)
    (hsrc : ∀ (H' : Nat → Option Block), (∀ b ∈ ms, H' b = H b) → ∀ E w v, HInv E H' w → RepA w E (ev T y) v → (∀ e ∈ src, e.length = i.sz) ∧ EvOk E w w ((Builtin.firstCells i.sz src.length v).events C.P w #[]) ∧ ∃ cells, (Builtin.lenOf v).run C.P w = .ok src.length w ∧ (Builtin.firstCells i.sz src.length v).run C.P w = .ok cells w ∧ CellsOf w E.pr i.sz src cells)
    (hx : ∀ E w v, RepA w E (ev T x) v → ∃ a c, v = .slice a es.length c ∧ (c < es.length + src.length ∨ es = [] ∧ src = [] ∧ c = 0) ∧ (∀ e ∈ es, e.length = i.sz) ∧ EvOk E w w ((Builtin.firstCells i.sz es.length v).events C.P w #[]) ∧ ∃ cells, (Builtin.firstCells i.sz es.length v).run C.P w = .ok cells w ∧ CellsOf w E.pr i.sz es cells)
    (h : K ⟨.own nx i.sz 0 (es.length + src.length) none, [(nx, some (.row i.sz (es ++ src)))], [nx], ms⟩) : Does C o N T H nx K := by
  have mx : x ∈ o.op.operands := by simp [ho, Op.operands, Call.operands]
  have my : y ∈ o.op.operands := by simp [ho, Op.operands, Call.operands]
  refine ⟨_, loc_mk fun T' H' g1 g2 E a w ht hh hf => ?_, rfl, h⟩
  have rx := rep_at ht (g1 x mx) rfl
  have ry := rep_at ht (g1 y my) rfl
  obtain ⟨ad, c, ex, hc, hel, _, old, hold, ho1, ho2, ho3⟩ := hx E w _ rx
  obtain ⟨hsl, hevS, new, hl, hnew, hn1, hn2, hn3⟩ := hsrc H' g2 E w _ hh ry
  have hn : ¬ E.U nx := hf nx (by simp)
  have hop : ∀ r w', (Builtin.append_ #[t0, t1] o.type #[.slice ad es.length c, a.eval y]).run C.P w = .ok r w' → (execOp a.eval o).run C.P w = .ok (.value r) w' := fun r w' hr => by
    rw [run_builtin ho]
    simp only [builtin, List.map_toArray, List.map_cons, List.map_nil, hat, ex]
    rw [Sem.run_bind, hr]; rfl
  have hopE : (execOp a.eval o).events C.P w #[] = (Builtin.append_ #[t0, t1] o.type #[.slice ad es.length c, a.eval y]).events C.P w #[] := by
    rw [ev_builtin ho]
    simp only [builtin, List.map_toArray, List.map_cons, List.map_nil, hat, ex]
    rw [Sem.events_bind]; exact evThen_last _ _
  rcases hc with hc | ⟨rfl, rfl, rfl⟩
  · -- new memory
    have drew_rep : ∀ {z : AV} {u : Value}, RepA w E z u → RepA w.drew E z u := fun hz => RepA.mono (w := w) (w' := w.drew) (fun _ _ => rfl) (fun _ h => h) (fun _ h => ⟨h, rfl, rfl, .rfl⟩) hz
    obtain ⟨ad', c', ex', _, _, hevo, old', hold', ho1', ho2', ho3'⟩ := hx E w.drew _ (drew_rep rx)
    rw [ex] at ex'; cases ex'
    obtain ⟨_, hevn, new', _, hnew', hn1', hn2', hn3'⟩ := hsrc H' g2 E w.drew _ hh.drew (drew_rep ry)
    rw [ex] at hold' hevo
    obtain ⟨rest, q, hr, hq1, hq2⟩ := run_grow (C := C) (ty := o.type) (C.ok _ _ hi) u0 u1 hl hold' hnew' hpos hc hb ho1' hn1'
    have old_heap : ∀ r, r < w.heap.size → (w.drew.alloc (.cells (old' ++ new' ++ rest) e)).heap[r]? = w.heap[r]? := fun r hr => by
      simp only [World.alloc, drew_heap, Array.getElem?_push]; rw [if_neg (by omega)]
    have hrow := RowRep.append (c := rest) ho3' hn3' ho1' hn1' hel hsl
    have hbk : (E.add nx w.heap.size (old' ++ new' ++ rest).size).blk nx = w.heap.size := by simp [Emb.add]
    have hp : Plain (w.drew.alloc (.cells (old' ++ new' ++ rest) e)) w.heap.size (old' ++ new' ++ rest) := ⟨e, 0, 0, by simp [World.alloc, drew_heap], fun _ _ => by omega⟩
    obtain ⟨k1, k2⟩ := hh.alloc (w' := w.drew.alloc (.cells (old' ++ new' ++ rest) e)) (b := nx) (B := .row i.sz (es ++ src)) (s := (old' ++ new' ++ rest).size) hn (by simp [World.alloc, drew_heap]) old_heap ⟨rfl, rfl, rfl⟩
      (.inr ⟨by simp [Emb.add], _, by rw [hbk]; exact hp, by simp [Emb.add], Nat.le_trans (Nat.mul_le_mul_right _ (by simpa using hq1)) hq2, fun f hf' => (List.mem_append.1 hf').elim (hel f) (hsl f),
        fun j f k z hj hz => (hrow j f k z hj hz).mono (fun r hr' => by rw [old_heap r (hh.frlt r (hh.prfr r hr'))]; rfl) (fun _ h => h)⟩)
    have hevs : EvOk E w (w.drew.alloc (.cells (old' ++ new' ++ rest) e)) ((execOp a.eval o).events C.P w #[]) := .union fun ev hev => by
      rw [hopE] at hev
      rcases ev_grow (C := C) (ty := o.type) (C.ok _ _ hi) u0 u1 hl hold' hnew' hpos hc hb hev with rfl | h1 | h1
      · exact fun x hx => .inl (.inl (.inl (by simpa using hx)))
      · exact (hevo.one h1).grow rfl (by simp [World.alloc, drew_heap])
      · exact (hevn.one h1).grow rfl (by simp [World.alloc, drew_heap])
    refine ⟨_, _, _, .inl (hop _ _ hr), ?_, k1, k2, fun b => by simp [Emb.add, or_comm], hevs⟩
    have := RepA.own (w := w.drew.alloc (.cells (old' ++ new' ++ rest) e)) (E := E.add nx w.heap.size (old' ++ new' ++ rest).size) nx i.sz 0 (es.length + src.length) none q (.inl rfl) (by simp [Emb.add]) hq1 (by simp) (by simpa [Emb.add] using hq2)
    rw [hbk] at this
    simpa using this
  · -- nothing is appended to nothing
    have hnew0 : new = #[] := Array.eq_empty_of_size_eq_zero (by simpa using hn1)
    subst hnew0
    have hr := run_room (C := C) (ty := o.type) (w' := w) (a := ad) (C.ok _ _ hi) u0 u1 hl hnew (n := 0) (c := 0) (by simp) (by cases ad <;> simp [storeCells])
    obtain ⟨k1, k2⟩ := hh.ghost (x := nx) (st := i.sz) hn
    exact ⟨_, w, E.ghost nx, .inl (hop _ _ hr), .own0 _ _ _ _ _ (.inl rfl) (.inl rfl) (by simp), k1, k2, (fun b => by simp [Emb.ghost, or_comm]), .union fun ev hev => by
      rw [hopE] at hev
      rcases ev_room (C := C) (ty := o.type) (C.ok _ _ hi) u0 u1 hl hnew (by simp) hev with h1 | ⟨p, _, h1⟩
      · exact hevS.one h1
      · simp [storeCells] at h1⟩

set_option maxHeartbeats 2000000 in
theorem vAppend_ok {nx : Nat} {K : Eff → Prop} {t0 t1 : TypeId} {x y : Operand} {ats : Array TypeId} (ho : o.op = .call { callee := .builtin .append, args := #[x, y], argTypes := ats }) (hat : ats = #[t0, t1]) (h : vAppend C t0 t1 (ev T x) (ev T y) H nx K) : Does C o N T H nx K := by
  have mx : x ∈ o.op.operands := by simp [ho, Op.operands, Call.operands]
  have my : y ∈ o.op.operands := by simp [ho, Op.operands, Call.operands]
  unfold vAppend at h
  split at h
  · rename_i e e' hk0 hk1
    obtain ⟨_, u0, rfl⟩ := kind_ok hk0
    obtain ⟨_, u1, rfl⟩ := kind_ok hk1
    split at h
    · rename_i i hi
      replace h := ck_out h
      obtain ⟨hz, h⟩ := h
      simp only [Bool.and_eq_true, decide_eq_true_eq] at hz
      obtain ⟨hz, hpos⟩ := hz
      obtain ⟨src, ms, h, hsrc⟩ := vSrc_out (C := C) h
      split at h
      · rename_i b st o' n cap hx
        split at h
        · rename_i st2 es hb
          replace h := ck_out h
          obtain ⟨hs, hn, hbd, h⟩ := h
          simp only [Bool.and_eq_true, beq_iff_eq, Bool.not_eq_true', List.contains_eq_mem, decide_eq_false_iff_not] at hs
          obtain ⟨⟨⟨rfl, rfl⟩, rfl⟩, hbm⟩ := hs
          refine ⟨_, loc_mk fun T' H' g1 g2 E a w ht hh hf => ?_, rfl, h⟩
          have rx := rep_at ht (g1 x mx) hx
          have ry := rep_at ht (g1 y my) rfl
          have hb' := (g2 b (by simp)).trans hb
          have g2' : ∀ b ∈ ms, H' b = H b := fun b' hb' => g2 b' (List.mem_cons_of_mem _ hb')
          obtain ⟨hsl, hevS, new, hl, hnew, hn1, hn2, hn3⟩ := hsrc H' g2' E w _ hh ry
          have hnx : ¬ E.U nx := hf nx (by simp)
          obtain ⟨c, ad, ex, hU, hnc, hcap, hh2⟩ := rep_own rx
          have hop : ∀ r w', (Builtin.append_ #[t0, t1] o.type #[.slice ad n c, a.eval y]).run C.P w = .ok r w' → (execOp a.eval o).run C.P w = .ok (.value r) w' := fun r w' hr => by
            rw [run_builtin ho]
            simp only [builtin, List.map_toArray, List.map_cons, List.map_nil, hat, ex]
            rw [Sem.run_bind, hr]; rfl
          have hopE : (execOp a.eval o).events C.P w #[] = (Builtin.append_ #[t0, t1] o.type #[.slice ad n c, a.eval y]).events C.P w #[] := by
            rw [ev_builtin ho]
            simp only [builtin, List.map_toArray, List.map_cons, List.map_nil, hat, ex]
            rw [Sem.events_bind]; exact evThen_last _ _
          have ulist : ∀ (E' : Emb), updH H' [(b, none), (nx, some (.row i.sz (es.take n ++ src)))] = setH (setH H' b none) nx (some (.row i.sz (es.take n ++ src))) := fun _ => rfl
          have hesl : ∀ e ∈ es, e.length = i.sz := by
            rcases hh.hp b _ hb' with ⟨_, he⟩ | ⟨_, _, _, _, _, he, _⟩
            · subst he; simp
            · exact he
          have htl : ∀ f ∈ es.take n, f.length = i.sz := fun f hf' => hesl f (List.mem_of_mem_take hf')
          have htn : (es.take n).length = n := by simp; omega
          by_cases hroom : n + src.length ≤ c
          · -- in place
            rcases hh2 with ⟨hg, rfl, hsz⟩ | ⟨hg, rfl, rfl⟩
            · obtain ⟨_, cells, p, q1, q2, q3, q4⟩ := (hh.hp b _ hb').resolve_left fun g => hg g.1
              have hle : n * i.sz + new.toList.length ≤ cells.size := by
                have e1 : n * i.sz + new.toList.length = (n + src.length) * i.sz := by rw [Nat.add_mul]; simp [hn1]
                rw [e1, q1]
                exact Nat.le_trans (Nat.mul_le_mul_right _ hroom) (by simpa using hsz)
              have hst := run_stores (P := C.P) p (o := n * i.sz) (vs := new.toList) hle hn2
              obtain ⟨cells', k1, k2, k3, k4, k5, k6⟩ := setCells_heap (E.blk b) new.toList (n * i.sz) w cells p hle
              have hr := run_room (C := C) (ty := o.type) (a := some ⟨E.blk b, 0 * i.sz, none⟩) (w' := w.setCells (E.blk b) (n * i.sz) new.toList) (C.ok _ _ hi) u0 u1 hl hnew hroom (by simp only [addr_add, Nat.zero_mul, Nat.zero_add]; exact hst)
              have prk : ∀ r, E.pr r → (w.setCells (E.blk b) (n * i.sz) new.toList).heap[r]? = w.heap[r]? := fun r hr => k6 r fun er => (hh.un b _ hb').2 hg (hh.prfr _ (er ▸ hr))
              obtain ⟨s1, s2⟩ := hh.store (w' := w.setCells (E.blk b) (n * i.sz) new.toList) (B' := .row i.sz (es.take n ++ src)) hb' hg k5 k6 (sameIO_setCells _ _ _ _) (.inr ⟨hg, cells', k1, by rw [k2, q1], by
                  rw [k2, List.length_append, htn, Nat.add_mul, ← hn1]; simpa using hle, fun f hf' => (List.mem_append.1 hf').elim (htl f) (hsl f), fun j f k z hj hz => by
                  rw [List.getElem?_append] at hj
                  split at hj
                  · rename_i hlt
                    rw [htn] at hlt
                    rw [List.getElem?_take, if_pos hlt] at hj
                    have hk : k < i.sz := (hesl f (List.mem_of_getElem? hj)) ▸ (List.getElem?_eq_some_iff.1 hz).1
                    have h2 : (j + 1) * i.sz ≤ n * i.sz := Nat.mul_le_mul_right _ hlt
                    rw [Nat.succ_mul] at h2
                    rw [k3 _ (.inl (by omega))]
                    exact (q4 j f k z hj hz).mono prk (fun _ h => h)
                  · rename_i hge
                    rw [htn] at hge hj
                    have hlt := (List.getElem?_eq_some_iff.1 hj).1
                    have hk : k < i.sz := (hsl f (List.mem_of_getElem? hj)) ▸ (List.getElem?_eq_some_iff.1 hz).1
                    have h2 : (j - n + 1) * i.sz ≤ src.length * i.sz := Nat.mul_le_mul_right _ hlt
                    rw [Nat.succ_mul] at h2
                    have h3 : j * i.sz = n * i.sz + (j - n) * i.sz := by rw [← Nat.add_mul]; congr 1; omega
                    have := k4 ((j - n) * i.sz + k) (by simp [hn1]; omega)
                    rw [show j * i.sz + k = n * i.sz + ((j - n) * i.sz + k) by omega, this]
                    have := hn3 (j - n) f k z hj hz
                    have := this.mono prk (fun _ h => h) (pr' := E.pr)
                    simpa [List.getD, Array.getD_eq_getD_getElem?] using this⟩)
              have hb2 : setH H' b (some (.row i.sz (es.take n ++ src))) b = some (.row i.sz (es.take n ++ src)) := by simp [setH]
              obtain ⟨r1, r2⟩ := s1.rename hb2 hnx
              have eH : setH (setH (setH H' b (some (.row i.sz (es.take n ++ src)))) b none) nx (some (.row i.sz (es.take n ++ src))) = setH (setH H' b none) nx (some (.row i.sz (es.take n ++ src))) := by
                funext z; simp only [setH]; split <;> (try split) <;> rfl
              rw [eH] at r1
              have hevs : EvOk E w (w.setCells (E.blk b) (n * i.sz) new.toList) ((execOp a.eval o).events C.P w #[]) := .union fun ev hev => by
                rw [hopE] at hev
                rcases ev_room (C := C) (ty := o.type) (C.ok _ _ hi) u0 u1 hl hnew hroom hev with h1 | ⟨p', ep, h1⟩
                · exact (hevS.one h1).grow rfl (Nat.le_of_eq k5.symm)
                · cases ep
                  rw [addr_add, Nat.zero_mul, Nat.zero_add] at h1
                  exact EvOk.one (EvOk.own hU hg (by rw [k5]; exact p.lt) fun e' he' => (ev_stores (P := C.P) new.toList 0 w cells #[] p (by simpa using hle) hn2 e' he').resolve_left (by simp)) h1
              refine ⟨_, _, E.alias nx b, .inl (hop _ _ hr), ?_, r1, s2.trans r2, fun z => by simp [Emb.alias, or_comm], hevs⟩
              have := RepA.own (w := w.setCells (E.blk b) (n * i.sz) new.toList) (E := E.alias nx b) nx i.sz 0 (n + src.length) none c (.inl rfl) (by simpa [Emb.alias] using hg) hroom (by simp) (by simpa [Emb.alias] using hsz)
              simpa [Emb.alias] using this
            · have h0 : src.length = 0 := by omega
              have hsr : src = [] := List.length_eq_zero_iff.1 h0
              subst hsr
              have hnew0 : new = #[] := Array.eq_empty_of_size_eq_zero (by simpa using hn1)
              subst hnew0
              have hr := run_room (C := C) (ty := o.type) (w' := w) (a := ad) (C.ok _ _ hi) u0 u1 hl hnew (n := 0) (c := 0) (by simp) (by cases ad <;> simp [storeCells])
              have he0 : es = [] := by
                rcases hh.hp b _ hb' with ⟨_, he⟩ | ⟨g, _⟩
                · exact he
                · exact (g hg).elim
              subst he0
              obtain ⟨r1, r2⟩ := hh.rename hb' hnx
              exact ⟨_, w, E.alias nx b, .inl (hop _ _ hr), .own0 _ _ _ _ _ (.inl rfl) (by simpa [Emb.alias] using hg) (by simp), by simpa [updH] using r1, r2, (fun z => by simp [Emb.alias, or_comm]), .union fun ev hev => by
                rw [hopE] at hev
                rcases ev_room (C := C) (ty := o.type) (C.ok _ _ hi) u0 u1 hl hnew (by simp) hev with h1 | ⟨p, _, h1⟩
                · exact hevS.one h1
                · simp [storeCells] at h1⟩
          · -- new memory
            have hc : c < n + src.length := by omega
            have dI := hh.drew
            have dR : ∀ {z : AV} {u : Value}, RepA w E z u → RepA w.drew E z u := fun hz => RepA.mono (w := w) (w' := w.drew) (fun _ _ => rfl) (fun _ h => h) (fun _ h => ⟨h, rfl, rfl, .rfl⟩) hz
            obtain ⟨_, hevn, new', _, hnew', hn1', hn2', hn3'⟩ := hsrc H' g2' E w.drew _ dI (dR ry)
            -- what the base holds
            obtain ⟨_, old', ho'⟩ : True ∧ ∃ old', (Builtin.firstCells i.sz n (.slice ad n c)).run C.P w.drew = .ok old' w.drew ∧ old'.size = n * i.sz ∧ RowRep w.drew E.pr i.sz old' (es.take n) ∧ EvOk E w.drew w.drew ((Builtin.firstCells i.sz n (.slice ad n c)).events C.P w.drew #[]) := by
              refine ⟨trivial, ?_⟩
              rcases hh2 with ⟨hg, rfl, hsz⟩ | ⟨hg, rfl, rfl⟩
              · obtain ⟨_, cells, p, q1, q2, q3, q4⟩ := (dI.hp b _ hb').resolve_left fun g => hg g.1
                have hnle : n * i.sz ≤ cells.size := Nat.le_trans (Nat.mul_le_mul_right _ hn) q2
                have hl2 := run_loadCells (P := C.P) w.drew ⟨E.blk b, 0 * i.sz, none⟩ (n * i.sz) (fun q => cells.getD q undef) (fun q hq => by
                  rw [addr_add, p.cell]
                  have hlt : q < cells.size := by omega
                  simp [Array.getD_eq_getD_getElem?, hlt])
                refine ⟨_, by simp only [Builtin.firstCells]; exact hl2, by simp, fun j f k z hj hz => ?_, EvOk.own hU hg p.lt fun e' he' => (ev_loadCellsFrom (P := C.P) (n * i.sz) 0 #[] w.drew #[] (fun q hq => ⟨cells.getD q undef, by
                  rw [Nat.zero_add, addr_add, p.cell]
                  have hlt : q < cells.size := by omega
                  simp [Array.getD_eq_getD_getElem?, hlt]⟩) e' he').resolve_left (by simp)⟩
                rw [List.getElem?_take] at hj
                split at hj
                · rename_i hlt
                  have hk : k < i.sz := (hesl f (List.mem_of_getElem? hj)) ▸ (List.getElem?_eq_some_iff.1 hz).1
                  have h2 : (j + 1) * i.sz ≤ n * i.sz := Nat.mul_le_mul_right _ hlt
                  rw [Nat.succ_mul] at h2
                  have : ((List.range (n * i.sz)).map fun q => cells.getD q undef).toArray.getD (j * i.sz + k) undef = cells.getD (j * i.sz + k) undef := by
                    simp only [Array.getD_eq_getD_getElem?, List.getElem?_toArray, List.getElem?_map, List.getElem?_range (show j * i.sz + k < n * i.sz by omega), Option.map_some, Option.getD_some]
                  rw [this]; exact q4 j f k z hj hz
                · cases hj
              · refine ⟨#[], ?_, by simp, (fun j f k z hj => by simp at hj), .nil (by cases ad <;> simp [Builtin.firstCells, loadCells, loadCellsFrom])⟩
                cases ad with
                | none => simp [Builtin.firstCells]
                | some p => simp [Builtin.firstCells, loadCells, loadCellsFrom]
            obtain ⟨hold', ho1', ho3', hevo⟩ := ho'
            obtain ⟨rest, q, hr, hq1, hq2⟩ := run_grow (C := C) (ty := o.type) (C.ok _ _ hi) u0 u1 hl hold' hnew' hpos hc hbd ho1' hn1'
            have old_heap : ∀ r, r < w.heap.size → (w.drew.alloc (.cells (old' ++ new' ++ rest) e)).heap[r]? = w.heap[r]? := fun r hr => by
              simp only [World.alloc, drew_heap, Array.getElem?_push]; rw [if_neg (by omega)]
            have hrow := RowRep.append (c := rest) ho3' hn3' (by rw [htn]; exact ho1') hn1' htl hsl
            have hbk : (E.add nx w.heap.size (old' ++ new' ++ rest).size).blk nx = w.heap.size := by simp [Emb.add]
            have hp : Plain (w.drew.alloc (.cells (old' ++ new' ++ rest) e)) w.heap.size (old' ++ new' ++ rest) := ⟨e, 0, 0, by simp [World.alloc, drew_heap], fun _ _ => by omega⟩
            obtain ⟨k1, k2⟩ := (hh.drop b).alloc (w' := w.drew.alloc (.cells (old' ++ new' ++ rest) e)) (b := nx) (B := .row i.sz (es.take n ++ src)) (s := (old' ++ new' ++ rest).size) hnx (by simp [World.alloc, drew_heap]) old_heap ⟨rfl, rfl, rfl⟩
              (.inr ⟨by simp [Emb.add], _, by rw [hbk]; exact hp, by simp [Emb.add], Nat.le_trans (Nat.mul_le_mul_right _ (by rw [List.length_append, htn]; exact hq1)) hq2, fun f hf' => (List.mem_append.1 hf').elim (htl f) (hsl f),
                fun j f k z hj hz => (hrow j f k z hj hz).mono (fun r hr' => by rw [old_heap r (hh.frlt r (hh.prfr r hr'))]; rfl) (fun _ h => h)⟩)
            have hevs : EvOk E w (w.drew.alloc (.cells (old' ++ new' ++ rest) e)) ((execOp a.eval o).events C.P w #[]) := .union fun ev hev => by
              rw [hopE] at hev
              rcases ev_grow (C := C) (ty := o.type) (C.ok _ _ hi) u0 u1 hl hold' hnew' hpos hc hbd hev with rfl | h1 | h1
              · exact fun x hx => .inl (.inl (.inl (by simpa using hx)))
              · exact (hevo.one h1).grow rfl (by simp [World.alloc, drew_heap])
              · exact (hevn.one h1).grow rfl (by simp [World.alloc, drew_heap])
            refine ⟨_, _, _, .inl (hop _ _ hr), ?_, k1, k2, fun z => by simp [Emb.add, or_comm], hevs⟩
            have := RepA.own (w := w.drew.alloc (.cells (old' ++ new' ++ rest) e)) (E := E.add nx w.heap.size (old' ++ new' ++ rest).size) nx i.sz 0 (n + src.length) none q (.inl rfl) (by simp [Emb.add]) hq1 (by simp) (by simpa [Emb.add] using hq2)
            rw [hbk] at this
            simpa using this
        · exact h.elim
      · rename_i hx
        obtain ⟨hbd, h⟩ := h
        refine append_new (es := []) ho hat u0 u1 hi hpos (by simpa using hbd) hsrc (fun E w v hr => ?_) (by simpa using h)
        rw [hx] at hr
        refine ⟨none, 0, rep_sc hr, ?_, by simp, .nil (by rw [rep_sc hr]; simp [Builtin.firstCells]), #[], by rw [rep_sc hr]; simp [Builtin.firstCells], by simp, by simp, fun j f k z hj => by simp at hj⟩
        cases src with
        | nil => exact .inr ⟨rfl, rfl, rfl⟩
        | cons s l => left; simp
      · rename_i st es cap hx
        replace h := ck_out h
        obtain ⟨hst, hcap, hbd, h⟩ := h
        have hst : st = i.sz := by simpa using hst
        subst hst
        refine append_new (es := es) ho hat u0 u1 hi hpos hbd hsrc (fun E w v hr => ?_) h
        rw [hx] at hr
        obtain ⟨a, nn, c, vs, e1, e2, e3, e4, e5, e6, e7⟩ := rep_ro hr
        have hr' : RepC w E.pr (.ro i.sz es cap) v := by cases hr with | cv _ _ h => exact h
        obtain ⟨r1, cells, r2, r3, r4⟩ := ro_cells (C := C) hr'
        subst e2
        refine ⟨a, c, e1, ?_, r1, (fun ev hev => by obtain ⟨r, hp, hlt, ad, wr, he1, he2⟩ := ro_ev (C := C) hr' ev hev; exact .inr ⟨ad, wr, he1, .inl (he2 ▸ hp), he2 ▸ hlt⟩), cells, r3, r4⟩
        rcases hcap with h0 | ⟨c', h0, h1⟩
        · have := e4 0 h0
          subst this
          have : es = [] := List.length_eq_zero_iff.1 (by omega)
          subst this
          cases src with
          | nil => exact .inr ⟨rfl, rfl, rfl⟩
          | cons s l => left; simp
        · left; rw [e4 c' h0]; exact h1
      · exact h.elim
    · exact h.elim
  · exact h.elim
end
end Go.Proofs.YtdjoodbidcncaaaGreatDoor.AW

/- A region as a condition on its operations, one behind the other. -/
namespace Go.Proofs.YtdjoodbidcncaaaGreatDoor.AW
open Go

/-! states as lists -/
def get : List (Nat × AV) → Nat → AV
  | [], _ => .any
  | (d, v) :: l, t => match Nat.beq t d with
    | true => v
    | false => get l t
def geth : List (Nat × Option Block) → Nat → Option Block
  | [], _ => none
  | (b, B) :: l, x => match Nat.beq x b with
    | true => B
    | false => geth l x
structure St where
  T : List (Nat × AV)
  H : List (Nat × Option Block)
  nx : Nat
def St.app (st : St) (d : Option Nat) (e : Eff) : St := ⟨match d with | none => st.T | some d => (d, e.v) :: st.T, e.wr.reverse ++ st.H, st.nx + e.nw.length⟩
theorem get_cons (d : Nat) (v : AV) (l : List (Nat × AV)) : get ((d, v) :: l) = setT (get l) (some d) v := by
  funext t
  simp only [get, setT]
  by_cases h : t = d
  · subst h; simp
  · rw [if_neg h]; cases hb : Nat.beq t d with
    | true => exact absurd (Nat.eq_of_beq_eq_true hb) h
    | false => rfl
theorem get_app (st : St) (d : Option Nat) (e : Eff) : get (st.app d e).T = setT (get st.T) d e.v := by
  cases d with
  | none => rfl
  | some d => exact get_cons d e.v st.T
theorem geth_cons (b : Nat) (B : Option Block) (l : List (Nat × Option Block)) : geth ((b, B) :: l) = setH (geth l) b B := by
  funext t
  simp only [geth, setH]
  by_cases h : t = b
  · subst h; simp
  · rw [if_neg h]; cases hb : Nat.beq t b with
    | true => exact absurd (Nat.eq_of_beq_eq_true hb) h
    | false => rfl
theorem geth_rev : ∀ (wr l : List (Nat × Option Block)), geth (wr.reverse ++ l) = updH (geth l) wr
  | [], _ => rfl
  | (b, B) :: wr, l => by
    rw [List.reverse_cons, List.append_assoc]
    show geth (wr.reverse ++ ((b, B) :: l)) = _
    rw [geth_rev wr ((b, B) :: l), geth_cons]; rfl
theorem geth_app (st : St) (d : Option Nat) (e : Eff) : geth (st.app d e).H = updH (geth st.H) e.wr := geth_rev _ _

structure FP where
  rd : List Nat
  wr : List Nat
def FP.of (e : Eff) : FP := ⟨e.rd, e.wr.map (·.1)⟩
/-! forced values: the same, told in full -/
def fV (v : Value) (K : Value → Prop) : Prop := match v with
  | .bool b => K (.bool b)
  | .int k n => K (.int k n)
  | .string s => K (.string s)
  | .slice a n c => K (.slice a n c)
  | .pointer a => K (.pointer a)
  | v => K v
theorem fV_eq {v : Value} {K : Value → Prop} : fV v K = K v := by unfold fV; split <;> rfl
def fN (n : Nat) (K : Nat → Prop) : Prop := match n with
  | 0 => K 0
  | n + 1 => K (n + 1)
theorem fN_eq {n : Nat} {K : Nat → Prop} : fN n K = K n := by cases n <;> rfl
def fO (c : Option Nat) (K : Option Nat → Prop) : Prop := match c with
  | none => K none
  | some n => K (some n)
theorem fO_eq {c : Option Nat} {K : Option Nat → Prop} : fO c K = K c := by cases c <;> rfl
def f0 (x : AV) (K : AV → Prop) : Prop := match x with
  | .cv (.sc v) => fV v fun v => K (.cv (.sc v))
  | .cv (.ro st es cap) => fO cap fun cap => K (.cv (.ro st es cap))
  | .cv (.rp cs) => K (.cv (.rp cs))
  | .cv (.ifc t c) => K (.cv (.ifc t c))
  | .ptr b st i k => fN b fun b => fN st fun st => K (.ptr b st i k)
  | .own b st o n cap => fN b fun b => fO cap fun cap => K (.own b st o n cap)
  | .mp b => fN b fun b => K (.mp b)
  | .ch b => fN b fun b => K (.ch b)
  | x => K x
theorem f0_eq {x : AV} {K : AV → Prop} : f0 x K = K x := by unfold f0; split <;> first | rfl | exact fV_eq | exact fO_eq | exact fN_eq.trans fO_eq | exact fN_eq.trans fN_eq | exact fN_eq
def fL (l : List AV) (K : List AV → Prop) : Prop := match l with
  | [] => K []
  | x :: l => f0 x fun x => fL l fun l => K (x :: l)
theorem fL_eq : ∀ {l : List AV} {K : List AV → Prop}, fL l K = K l
  | [], _ => rfl
  | x :: l, K => by simp only [fL]; rw [f0_eq, fL_eq]
def fA (x : AV) (K : AV → Prop) : Prop := match x with
  | .agg cs => fL cs fun cs => K (.agg cs)
  | .tup cs => fL cs fun cs => K (.tup cs)
  | .fn f fs cs => fL fs fun fs => fL cs fun cs => K (.fn f fs cs)
  | .ifc t v => f0 v fun v => K (.ifc t v)
  | x => f0 x K
theorem fA_eq {x : AV} {K : AV → Prop} : fA x K = K x := by
  unfold fA; split
  · exact fL_eq
  · exact fL_eq
  · rw [fL_eq, fL_eq]
  · exact f0_eq
  · exact f0_eq
def fB (B : Option Block) (K : Option Block → Prop) : Prop := match B with
  | some (.box cs) => fL cs fun cs => K (some (.box cs))
  | some (.row st es) => K (some (.row st es))
  | some (.mp es) => K (some (.mp es))
  | some (.ch cap es shut) => K (some (.ch cap es shut))
  | none => K none
theorem fB_eq {B : Option Block} {K : Option Block → Prop} : fB B K = K B := by unfold fB; split <;> first | rfl | exact fL_eq
def fH (wr H : List (Nat × Option Block)) (K : List (Nat × Option Block) → Prop) : Prop := match wr with
  | [] => K H
  | (b, B) :: wr => fN b fun b => fB B fun B => fH wr ((b, B) :: H) K
theorem fH_eq : ∀ {wr H : List (Nat × Option Block)} {K : List (Nat × Option Block) → Prop}, fH wr H K = K (wr.reverse ++ H)
  | [], _, _ => rfl
  | (b, B) :: wr, H, K => by simp only [fH]; rw [fN_eq, fB_eq, fH_eq]; simp
def fNm (wr : List (Nat × Option Block)) (K : List Nat → Prop) : Prop := match wr with
  | [] => K []
  | (b, _) :: l => fN b fun b => fNm l fun ns => K (b :: ns)
theorem fNm_eq : ∀ {wr : List (Nat × Option Block)} {K : List Nat → Prop}, fNm wr K = K (wr.map (·.1))
  | [], _ => rfl
  | (b, _) :: l, K => by simp only [fNm]; rw [fN_eq, fNm_eq]; rfl
def fW (wr : List (Nat × Option Block)) (nw : List Nat) (nx : Nat) (K : List Nat → Nat → Prop) : Prop := fNm wr fun ns => match nw with
  | [] => K ns nx
  | nw => fN (nx + nw.length) fun nx => K ns nx
theorem fW_eq {wr : List (Nat × Option Block)} {nw : List Nat} {nx : Nat} {K : List Nat → Nat → Prop} : fW wr nw nx K = K (wr.map (·.1)) (nx + nw.length) := by
  unfold fW; rw [fNm_eq]; split <;> first | rfl | exact fN_eq
def fS (st : St) (K : List (Nat × AV) → List (Nat × Option Block) → Nat → Prop) : Prop := match st with
  | ⟨T, H, nx⟩ => K T H nx
theorem fS_eq {st : St} {K : List (Nat × AV) → List (Nat × Option Block) → Nat → Prop} : fS st K = K st.T st.H st.nx := rfl
/-- the state behind an operation -/
def stepE (e : Eff) (st : St) (d : Option Nat) (K : St → FP → Prop) : Prop := match e, st with
  | ⟨v, wr, nw, rd⟩, ⟨T, H, nx⟩ => fA v fun v => fH wr H fun H => match d with
    | none => fW wr nw nx fun ns nx => K ⟨T, H, nx⟩ ⟨rd, ns⟩
    | some d => fW wr nw nx fun ns nx => K ⟨(d, v) :: T, H, nx⟩ ⟨rd, ns⟩
theorem stepE_eq {e : Eff} {st : St} {d : Option Nat} {K : St → FP → Prop} : stepE e st d K = K (st.app d e) (FP.of e) := by
  obtain ⟨v, wr, nw, rd⟩ := e
  obtain ⟨T, H, nx⟩ := st
  simp only [stepE]
  rw [fA_eq, fH_eq]
  cases d <;> exact fW_eq

/-! one operation -/
/-- a call: whatever is known of it -/
@[irreducible] def CallVC (C : Ctx) (o : Oper) (N : Nat) (T : Nat → AV) (H : Nat → Option Block) (nx : Nat) (K : Eff → Prop) : Prop := Does C o N T H nx K
def vBi (C : Ctx) (N : Nat) (o : Oper) (b : Builtin) (args : Array Operand) (ats : Array TypeId) (T : Nat → AV) (H : Nat → Option Block) (nx : Nat) (K : Eff → Prop) : Prop := match b, args.toList, ats.toList with
  | .len, [x], t :: _ => match ev T x with
    | .mp _ => CallVC C o N T H nx K
    | y => vLen C t y K
  | .append, [x, y], [t0, t1] => vAppend C t0 t1 (ev T x) (ev T y) H nx K
  | _, _, _ => CallVC C o N T H nx K
def vop (C : Ctx) (N : Nat) (o : Oper) (T : Nat → AV) (H : Nat → Option Block) (nx : Nat) (K : Eff → Prop) : Prop := match o.op with
  | .move x => vMove (ev T x) K
  | .assign x => vMove (ev T x) K
  | .pick c x y => vPick (ev T c) (ev T x) (ev T y) K
  | .binOp op t x (.const .nilIface) _ => vNilI C op t (ev T x) K
  | .binOp _ _ _ (.const (.slice _ _ _)) _ => CallVC C o N T H nx K
  | .binOp op t x y _ => vBinop C op t (ev T x) (ev T y) K
  | .unOp op _ x => vUn op (ev T x) K
  | .convert s d x => vConv C s d (ev T x) K
  | .extract x ix => vExt (ev T x) ix K
  | .makeInterface t x => vIface C t (ev T x) K
  | .makeFunc f fs cs => vFunc f (fs.toList.map (ev T)) (cs.toList.map (ev T)) K
  | .nilCheck x => vNil (ev T x) K
  | .alloc t => vAlloc C t nx K
  | .box _ x => vBox (ev T x) nx K
  | .load _ (.global _) => CallVC C o N T H nx K
  | .load t x => vLoad C t (ev T x) H K
  | .store t x v => vStore C t (ev T x) (ev T v) H K
  | .fieldAddr s x f => vFAddr C s (ev T x) f K
  | .field s x f => vField C s (ev T x) f K
  | .indexAddr t x ix => vIAddr C t (ev T x) (ev T ix) K
  | .index t x ix => vIndex C t (ev T x) (ev T ix) K
  | .slice t x lo hi mx => vSlice C t (ev T x) (lo.map (ev T)) (hi.map (ev T)) (mx.map (ev T)) K
  | .build t ps => vBuild C t (ps.toList.map fun p => (p.1, ev T p.2)) K
  | .buildSlice t len ps => vBuildS C t len (ps.toList.map fun p => (p.1, ev T p.2)) H nx K
  | .makeSlice t l c => vMakeS C t (ev T l) (ev T c) nx K
  | .call { callee := .builtin b, args, argTypes } => vBi C N o b args argTypes T H nx K
  | _ => CallVC C o N T H nx K
theorem list1 {α : Type} {a : Array α} {x : α} (h : a.toList = [x]) : a = #[x] := by apply Array.ext'; simpa using h
theorem list2 {α : Type} {a : Array α} {x y : α} (h : a.toList = [x, y]) : a = #[x, y] := by apply Array.ext'; simpa using h
theorem vop_ok {C : Ctx} {o : Oper} {N : Nat} {T : Nat → AV} {H : Nat → Option Block} {nx : Nat} {K : Eff → Prop} (h : vop C N o T H nx K) : Does C o N T H nx K := by
  unfold vop at h
  split at h
  case h_1 ho => exact vMove_ok (.inl ho) h
  case h_2 ho => exact vMove_ok (.inr ho) h
  case h_3 ho => exact vPick_ok ho h
  case h_4 ho => exact vNilI_ok ho h
  case h_5 ho => unfold CallVC at h; exact h
  case h_6 ho => exact vBinop_ok ho h
  case h_7 ho => exact vUn_ok ho h
  case h_8 ho => exact vConv_ok ho h
  case h_9 ho => exact vExt_ok ho h
  case h_10 ho => exact vIface_ok ho h
  case h_11 ho => exact vFunc_ok ho h
  case h_12 ho => exact vNil_ok ho h
  case h_13 ho => exact vAlloc_ok ho h
  case h_14 ho => exact vBox_ok ho h
  case h_15 ho => unfold CallVC at h; exact h
  case h_16 ho => exact vLoad_ok ho h
  case h_17 ho => exact vStore_ok ho h
  case h_18 ho => exact vFAddr_ok ho h
  case h_19 ho => exact vField_ok ho h
  case h_20 ho => exact vIAddr_ok ho h
  case h_21 ho => exact vIndex_ok ho h
  case h_22 ho => exact vSlice_ok ho h
  case h_23 ho => exact vBuild_ok ho h
  case h_24 ho => exact vBuildS_ok ho h
  case h_25 ho => exact vMakeS_ok ho h
  case h_26 b args ats ho =>
    unfold vBi at h
    split at h
    · rename_i x t l e1 e2
      have := list1 e1
      subst this
      split at h
      · unfold CallVC at h; exact h
      · exact vLen_ok ho (by rw [← Array.getElem?_toList, e2]; rfl) h
    · rename_i x y t0 t1 e1 e2
      have := list2 e1
      subst this
      exact vAppend_ok ho (list2 e2) h
    · unfold CallVC at h; exact h
  case h_27 => unfold CallVC at h; exact h

def apB (ops : Array Oper) (o o' : Oper) (f g : FP) : Bool :=
  o.apart ops o' && (f.wr.all (fun b => !g.rd.contains b && !g.wr.contains b) && g.wr.all (fun b => !f.rd.contains b))
def bef (ops : Array Oper) (j i : Nat) : Bool := ((Region.before ops).getD i 0).testBit j
def opAt (ops : Array Oper) (i : Nat) : Oper := ops.getD i default
def dstOk (N : Nat) (ops : Array Oper) : Bool := ops.toList.all fun o => match o.dst with | some d => decide (d < N) | none => true
def edgesOk (ops : Array Oper) : Bool := (List.range ops.size).all fun i => (opAt ops i).after.toList.all fun e => !Region.binds .any e || decide (e.on < i)
def pairsOk (ops : Array Oper) (fps : List FP) : Bool :=
  let B := Region.before ops
  (List.range ops.size).all fun i => (List.range i).all fun j => (B.getD i 0).testBit j || apB ops (opAt ops j) (opAt ops i) (fps.getD j ⟨[], []⟩) (fps.getD i ⟨[], []⟩)
def guardsOk (ops : Array Oper) : Bool := (List.range ops.size).all fun i => match (opAt ops i).guard with
  | none => true
  | some (j, _) => decide (j < i) && bef ops j i
def gsOk (ops : Array Oper) : Bool := ops.toList.all fun o => match o.guard with | some (j, _) => decide (j < ops.size) | none => true
def chk (N : Nat) (draw : Bool) (ops : Array Oper) (fps : List FP) : Bool := (dstOk N ops && gsOk ops) && (!draw || (edgesOk ops && guardsOk ops && pairsOk ops fps))

/-- a region's operations, one behind the other -/
def rg (C : Ctx) (N : Nat) (draw : Bool) (ops : Array Oper) : List Oper → List FP → St → (St → Prop) → Prop
  | [], done, st, K => chk N draw ops done.reverse = true ∧ K st
  | o :: l, done, st, K => fS st fun T H nx =>
    let on := vop C N o (get T) (geth H) nx fun e => stepE e ⟨T, H, nx⟩ o.dst fun st fp => rg C N draw ops l (fp :: done) st K
    let off := stepE offEnt.e ⟨T, H, nx⟩ o.dst fun st fp => rg C N draw ops l (fp :: done) st K
    match o.guard with
    | none => on
    | some (j, want) => match (opAt ops j).dst with
      | some d => match yv (get T d) with
        | some (some q) => match want with
          | true => Br q on off
          | false => Br q off on
        | some none => off
        | none => False
      | none => False

structure EntOk (C : Ctx) (N : Nat) (ops : Array Oper) (o : Oper) (t : Ent) (st : St) : Prop where
  guard : match o.guard with
    | none => t.on = true
    | some (j, want) => ∃ d r, (opAt ops j).dst = some d ∧ yv (get st.T d) = some r ∧ t.on = (r == some want)
  on : t.on = true → OpLoc C.M o N (get st.T) (geth st.H) t.e ∧ t.e.nw = List.range' st.nx t.e.nw.length
  off : t.on = false → t = offEnt
def Runs (C : Ctx) (N : Nat) (ops : Array Oper) : List Oper → List Ent → St → St → Prop
  | [], [], st, st' => st = st'
  | o :: l, t :: tab, st, st' => EntOk C N ops o t st ∧ Runs C N ops l tab (st.app o.dst t.e) st'
  | _, _, _, _ => False

theorem rg_out {C : Ctx} {N : Nat} {draw : Bool} {ops : Array Oper} : ∀ {todo : List Oper} {done : List FP} {st : St} {K : St → Prop}, rg C N draw ops todo done st K →
    ∃ tab st', tab.length = todo.length ∧ Runs C N ops todo tab st st' ∧ chk N draw ops (done.reverse ++ tab.map fun t => FP.of t.e) = true ∧ K st'
  | [], done, st, K, h => ⟨[], st, rfl, rfl, by simpa using h.1, h.2⟩
  | o :: l, done, st, K, h => by
    have on : ∀ (_ : vop C N o (get st.T) (geth st.H) st.nx fun e => stepE e st o.dst fun st fp => rg C N draw ops l (fp :: done) st K)
        (_ : match o.guard with | none => True | some (j, want) => ∃ d, (opAt ops j).dst = some d ∧ yv (get st.T d) = some (some want)), ∃ tab st', tab.length = (o :: l).length ∧ Runs C N ops (o :: l) tab st st' ∧ chk N draw ops (done.reverse ++ tab.map fun t => FP.of t.e) = true ∧ K st' := fun h hg => by
      obtain ⟨e, h1, h2, h3⟩ := vop_ok h
      rw [stepE_eq] at h3
      obtain ⟨tab, st', g1, g2, g3, g4⟩ := rg_out h3
      refine ⟨⟨true, e⟩ :: tab, st', by simp [g1], ⟨⟨?_, fun _ => ⟨h1, h2⟩, (fun h => by cases h)⟩, g2⟩, by simpa using g3, g4⟩
      split
      · rfl
      · rename_i j want hgu
        rw [hgu] at hg
        obtain ⟨d, e1, e2⟩ := hg
        exact ⟨d, _, e1, e2, by simp⟩
    have off : ∀ (_ : stepE offEnt.e st o.dst fun st fp => rg C N draw ops l (fp :: done) st K)
        (_ : match o.guard with | none => False | some (j, want) => ∃ d r, (opAt ops j).dst = some d ∧ yv (get st.T d) = some r ∧ (r == some want) = false), ∃ tab st', tab.length = (o :: l).length ∧ Runs C N ops (o :: l) tab st st' ∧ chk N draw ops (done.reverse ++ tab.map fun t => FP.of t.e) = true ∧ K st' := fun h hg => by
      rw [stepE_eq] at h
      obtain ⟨tab, st', g1, g2, g3, g4⟩ := rg_out h
      refine ⟨offEnt :: tab, st', by simp [g1], ⟨⟨?_, (fun h => by cases h), fun _ => rfl⟩, g2⟩, by simpa [offEnt, FP.of] using g3, g4⟩
      split
      · rename_i hgu; rw [hgu] at hg; exact hg.elim
      · rename_i j want hgu
        rw [hgu] at hg
        obtain ⟨d, r, e1, e2, e3⟩ := hg
        exact ⟨d, r, e1, e2, by simp [offEnt, e3]⟩
    simp only [rg, fS_eq] at h
    split at h
    · rename_i hgu
      exact on h (by rw [hgu]; trivial)
    · rename_i j want hgu
      split at h
      · rename_i d hd
        split at h
        · rename_i q hy
          cases want <;> simp only at h <;> cases q
          · exact on (h.2 rfl) (by rw [hgu]; exact ⟨d, hd, hy⟩)
          · exact off (h.1 rfl) (by rw [hgu]; exact ⟨d, _, hd, hy, rfl⟩)
          · exact off (h.2 rfl) (by rw [hgu]; exact ⟨d, _, hd, hy, rfl⟩)
          · exact on (h.1 rfl) (by rw [hgu]; exact ⟨d, hd, hy⟩)
        · rename_i hy
          exact off h (by rw [hgu]; exact ⟨d, _, hd, hy, rfl⟩)
        · exact h.elim
      · exact h.elim

/-! the order -/
theorem before_edge (ops : Array Oper) (he : edgesOk ops = true) : ∀ i j, i < ops.size → bef ops j i = true → ∃ e ∈ (opAt ops i).after, Region.binds .any e = true ∧ (j = e.on ∨ bef ops j e.on = true) := by
  -- the row of masks, operation by operation
  have fold : ∀ (es : List Edge) (acc : Array Nat) (s : Nat) (j : Nat), (es.foldl (fun s e => if Region.binds .any e then s ||| 2 ^ e.on ||| acc.getD e.on 0 else s) s).testBit j = true → s.testBit j = true ∨ ∃ e ∈ es, Region.binds .any e = true ∧ (j = e.on ∨ (acc.getD e.on 0).testBit j = true) := by
    intro es
    induction es with
    | nil => intro acc s j h; exact .inl h
    | cons e es ih =>
      intro acc s j h
      simp only [List.foldl_cons] at h
      rcases ih acc _ j h with h | ⟨e', h1, h2⟩
      · split at h
        · rename_i hb
          simp only [Nat.testBit_or, Bool.or_eq_true] at h
          rcases h with (h | h) | h
          · exact .inl h
          · refine .inr ⟨e, List.mem_cons_self .., hb, .inl ?_⟩
            rw [Nat.testBit_two_pow] at h
            simpa using (of_decide_eq_true h).symm
          · exact .inr ⟨e, List.mem_cons_self .., hb, .inr h⟩
        · exact .inl h
      · exact .inr ⟨e', List.mem_cons_of_mem _ h1, h2⟩
  let step := fun (acc : Array Nat) (o : Oper) => acc.push (o.after.foldl (fun s e => if Region.binds .any e then s ||| 2 ^ e.on ||| acc.getD e.on 0 else s) 0)
  have key : ∀ (l : List Oper) (acc : Array Nat), (l.foldl step acc).size = acc.size + l.length ∧ (∀ k, k < acc.size → (l.foldl step acc).getD k 0 = acc.getD k 0) ∧
      ∀ q o, l[q]? = some o → ∃ pre : Array Nat, pre.size = acc.size + q ∧ (∀ k, k < pre.size → pre.getD k 0 = (l.foldl step acc).getD k 0) ∧ (l.foldl step acc).getD (acc.size + q) 0 = o.after.foldl (fun s e => if Region.binds .any e then s ||| 2 ^ e.on ||| pre.getD e.on 0 else s) 0 := by
    intro l
    induction l with
    | nil => intro acc; simp
    | cons o l ih =>
      intro acc
      obtain ⟨h1, h2, h3⟩ := ih (step acc o)
      have hs : (step acc o).size = acc.size + 1 := by simp [step]
      have old : ∀ k, k < acc.size → (step acc o).getD k 0 = acc.getD k 0 := fun k hk => by
        simp only [step, Array.getD_eq_getD_getElem?, Array.getElem?_push]; rw [if_neg (by omega)]
      refine ⟨by simp only [List.foldl_cons, h1, hs, List.length_cons]; omega, fun k hk => by simp only [List.foldl_cons]; rw [h2 k (by omega), old k hk], fun q o' hq => ?_⟩
      cases q with
      | zero =>
        simp only [List.getElem?_cons_zero, Option.some.injEq] at hq
        subst hq
        refine ⟨acc, by simp, fun k hk => by simp only [List.foldl_cons]; rw [h2 k (by omega), old k hk], ?_⟩
        simp only [List.foldl_cons, Nat.add_zero]
        rw [h2 acc.size (by omega)]
        simp [step, Array.getD_eq_getD_getElem?]
      | succ q =>
        obtain ⟨pre, p1, p2, p3⟩ := h3 q o' (by simpa using hq)
        exact ⟨pre, by omega, p2, by simpa [hs, Nat.add_assoc, Nat.add_comm 1 q] using p3⟩
  intro i j hi hj
  have hb : Region.before ops = ops.toList.foldl step #[] := by simp only [Region.before, step]; rw [← Array.foldl_toList]
  obtain ⟨_, _, h3⟩ := key ops.toList #[]
  have ho : ops.toList[i]? = some (opAt ops i) := by simp [opAt, Array.getD_eq_getD_getElem?, hi]
  obtain ⟨pre, p1, p2, p3⟩ := h3 i _ ho
  simp only [bef, hb] at hj ⊢
  have p1 : pre.size = i := by simpa using p1
  rw [show (#[] : Array Nat).size + i = i by simp] at p3
  rw [p3, ← Array.foldl_toList] at hj
  rcases fold _ _ _ _ hj with h | ⟨e, h1, h2, h4⟩
  · simp at h
  · refine ⟨e, Array.mem_toList_iff.1 h1, h2, h4.imp id fun h4 => ?_⟩
    have hlt : e.on < i := by
      have := List.all_eq_true.1 he i (List.mem_range.2 hi)
      have := List.all_eq_true.1 this e h1
      simpa [h2] using this
    rw [← p2 e.on (by omega)]; exact h4

theorem before_ok (ops : Array Oper) (he : edgesOk ops = true) : Before ops (opAt ops) (bef ops) := by
  have edge : ∀ i, i < ops.size → ∀ e ∈ (opAt ops i).after, Region.binds .any e = true → e.on < i := fun i hi e h1 h2 => by
    have := List.all_eq_true.1 he i (List.mem_range.2 hi)
    have := List.all_eq_true.1 this e (Array.mem_toList_iff.2 h1)
    simpa [h2] using this
  refine ⟨edge, fun S i => ?_⟩
  induction i using Nat.strongRecOn with
  | _ i ih =>
    intro hi hS hr j hj
    obtain ⟨e, h1, h2, h3⟩ := before_edge ops he i j hi hj
    rcases h3 with rfl | h3
    · exact hr e h1 h2
    · have hlt := edge i hi e h1 h2
      exact ih e.on hlt (by omega) (fun k hk => hS k (by omega)) (fun e' h1' h2' => hS e.on hlt (hr e h1 h2) e' h1' h2') j h3
end Go.Proofs.YtdjoodbidcncaaaGreatDoor.AW

/- Code as a condition on an abstract state. -/
namespace Go.Proofs.YtdjoodbidcncaaaGreatDoor.AW
open Go

def stF (op : Nat → Oper) (tab : Nat → Ent) (st : St) : Nat → St
  | 0 => st
  | i + 1 => (stF op tab st i).app (op i).dst (tab i).e
section
variable {C : Ctx} {N : Nat} {ops : Array Oper}

theorem stF_T (op : Nat → Oper) (tab : Nat → Ent) (st : St) : ∀ i, get (stF op tab st i).T = Tf op tab (fun _ => true) (get st.T) i
  | 0 => rfl
  | i + 1 => by simp only [stF, Tf, if_true]; rw [get_app, stF_T op tab st i]
theorem stF_H (op : Nat → Oper) (tab : Nat → Ent) (st : St) : ∀ i, geth (stF op tab st i).H = Hf tab (fun _ => true) (geth st.H) i
  | 0 => rfl
  | i + 1 => by simp only [stF, Hf, if_true]; rw [geth_app, stF_H op tab st i]
theorem stF_nx (op : Nat → Oper) (tab : Nat → Ent) (st : St) (i : Nat) : ∀ d, (stF op tab st i).nx ≤ (stF op tab st (i + d)).nx
  | 0 => Nat.le_refl _
  | d + 1 => Nat.le_trans (stF_nx op tab st i d) (by show _ ≤ (stF op tab st (i + d + 1)).nx; simp only [stF, St.app]; omega)

theorem runs_at {todo : List Oper} {tab : List Ent} {st st' : St} (h : Runs C N ops todo tab st st') (op : Nat → Oper) (tb : Nat → Ent) (ho : ∀ i o, todo[i]? = some o → op i = o) (ht : ∀ i t, tab[i]? = some t → tb i = t) : ∀ i, i ≤ todo.length → Runs C N ops (todo.drop i) (tab.drop i) (stF op tb st i) st' := by
  intro i
  induction i with
  | zero => intro _; simpa [stF] using h
  | succ i ih =>
    intro hi
    have h1 := ih (by omega)
    cases hd : todo.drop i with
    | nil => have := congrArg List.length hd; simp at this; omega
    | cons o l =>
      rw [hd] at h1
      cases ht' : tab.drop i with
      | nil => rw [ht'] at h1; exact h1.elim
      | cons t tl =>
        rw [ht'] at h1
        have e1 : todo[i]? = some o := by have := congrArg (·[0]?) hd; simpa using this
        have e2 : tab[i]? = some t := by have := congrArg (·[0]?) ht'; simpa using this
        have d1 : todo.drop (i + 1) = l := by rw [← List.drop_drop, hd]; rfl
        have d2 : tab.drop (i + 1) = tl := by rw [← List.drop_drop, ht']; rfl
        rw [d1, d2]
        simp only [stF]
        rw [ho i o e1, ht i t e2]
        exact h1.2
theorem runs_ent {todo : List Oper} {tab : List Ent} {st st' : St} (h : Runs C N ops todo tab st st') (op : Nat → Oper) (tb : Nat → Ent) (ho : ∀ i o, todo[i]? = some o → op i = o) (ht : ∀ i t, tab[i]? = some t → tb i = t) (i : Nat) (hi : i < todo.length) :
    EntOk C N ops (op i) (tb i) (stF op tb st i) := by
  have h1 := runs_at h op tb ho ht i (by omega)
  cases hd : todo.drop i with
  | nil => have := congrArg List.length hd; simp at this; omega
  | cons o l =>
    rw [hd] at h1
    cases ht' : tab.drop i with
    | nil => rw [ht'] at h1; exact h1.elim
    | cons t tl =>
      rw [ht'] at h1
      have e1 : todo[i]? = some o := by have := congrArg (·[0]?) hd; simpa using this
      have e2 : tab[i]? = some t := by have := congrArg (·[0]?) ht'; simpa using this
      rw [ho i o e1, ht i t e2]
      exact h1.1
theorem runs_end {todo : List Oper} {tab : List Ent} {st st' : St} (h : Runs C N ops todo tab st st') (op : Nat → Oper) (tb : Nat → Ent) (ho : ∀ i o, todo[i]? = some o → op i = o) (ht : ∀ i t, tab[i]? = some t → tb i = t) (hl : tab.length = todo.length) : stF op tb st todo.length = st' := by
  have h1 := runs_at h op tb ho ht todo.length (Nat.le_refl _)
  simp only [List.drop_length] at h1
  rw [← hl, List.drop_length] at h1
  rw [← hl]; exact h1
end

structure Inv {P : Program} (M : Mode P) (N k : Nat) (E : Emb) (st : St) (a : Act) (w : World) (x : M.X) : Prop where
  t : TInv N E (get st.T) a w
  h : HInv E (geth st.H) w
  nx : ∀ b, E.U b → b < st.nx
  k : ∀ b, b < k → E.U b
  ok : M.ok x E w

def AWp (C : Ctx) (N k : Nat) (c : Code) (st : St) (Q : Exit → St → Prop) : Prop :=
  ∀ fn E a w x, Inv C.M N k E st a w x → C.M.Code fn c (fun e a' w' x' => ∃ st' E', Q e st' ∧ Inv C.M N k E' st' a' w' x' ∧ Ext (· < k) E w E' w' ∧ C.M.le x w.heap.size x') a w x
@[irreducible] def AW (C : Ctx) (N k : Nat) (c : Code) (st : St) (Q : Exit → St → Prop) : Prop := AWp C N k c st Q
theorem AW.mk {C : Ctx} {N k : Nat} {c : Code} {st : St} {Q : Exit → St → Prop} (h : AWp C N k c st Q) : AW C N k c st Q := by unfold AW; exact h
theorem AW.out {C : Ctx} {N k : Nat} {c : Code} {st : St} {Q : Exit → St → Prop} (h : AW C N k c st Q) : AWp C N k c st Q := by unfold AW at h; exact h

section
variable {C : Ctx} {N k : Nat}

theorem opAt_of {ops : Array Oper} {i : Nat} {o : Oper} (h : ops.toList[i]? = some o) : opAt ops i = o := by
  have : ops[i]? = some o := by simpa using h
  simp [opAt, Array.getD_eq_getD_getElem?, this]
theorem opAt_some {ops : Array Oper} {i : Nat} (h : i < ops.size) : ops[i]? = some (opAt ops i) := by simp [opAt, Array.getD_eq_getD_getElem?, h]

/-- one operation in its place -/
theorem ent_step {ops : Array Oper} {tb : Nat → Ent} {st : St} {i : Nat} (hi : i < ops.size) (he : EntOk C N ops (opAt ops i) (tb i) (stF (opAt ops) tb st i)) (hd : dstOk N ops = true) {fn : FuncId} {E : Emb} {a : Act} {w : World} {x : C.M.X} {K : Act → World → C.M.X → Prop}
    (ht : TInv N E (get (stF (opAt ops) tb st i).T) a w) (hh : HInv E (geth (stF (opAt ops) tb st i).H) w) (hnx : ∀ b, E.U b → b < (stF (opAt ops) tb st i).nx) (hok : C.M.ok x E w)
    (hg : ∀ j want, (opAt ops i).guard = some (j, want) → j < ops.size)
    (next : ∀ E' a' w' x', TInv N E' (get (stF (opAt ops) tb st (i + 1)).T) a' w' → HInv E' (geth (stF (opAt ops) tb st (i + 1)).H) w' → (∀ b, E'.U b → b < (stF (opAt ops) tb st (i + 1)).nx) → C.M.ok x' E' w' → C.M.le x w.heap.size x' → Ext E.U E w E' w' → (∀ b, E.U b → E'.U b) → K a' w' x') : C.M.opM fn ops i K a w x := by
  have dst : ∀ j, j < ops.size → ∀ x, (opAt ops j).dst = some x → x < N := fun j hj x hx => by
    have := List.all_eq_true.1 hd (opAt ops j) (by rw [Array.mem_toList_iff]; exact Array.mem_of_getElem? (opAt_some hj))
    simpa [hx] using this
  unfold Mode.opM
  rw [opAt_some hi]
  simp only
  have wanted : Region.wanted (opAt ops i) (yielded ops a.tmps) = (tb i).on := by
    have g := he.guard
    unfold Region.wanted
    cases hgu : (opAt ops i).guard with
    | none => rw [hgu] at g; exact g.symm
    | some jw =>
      obtain ⟨j, want⟩ := jw
      rw [hgu] at g
      obtain ⟨d, r, h1, h2, h3⟩ := g
      have hj := hg j want hgu
      have hr := yv_rep (ht.tm d) h2
      have hlt : d < a.tmps.size := by rw [ht.sz]; exact dst j hj d h1
      simp only
      rw [h3]
      congr 1
      unfold yielded
      rw [opAt_some hj]
      simp only [Option.bind_some, h1, Array.getElem?_eq_getElem hlt]
      have hv : a.tmps.getD d undef = a.tmps[d] := by rw [Array.getD_eq_getD_getElem?, Array.getElem?_eq_getElem hlt]; rfl
      rw [hv] at hr
      rw [← hr]
      cases a.tmps[d] <;> rfl
  rw [wanted]
  cases hon : (tb i).on with
  | false =>
    simp only [Bool.false_eq_true, if_false]
    have ho := he.off hon
    refine next E _ w x ?_ ?_ (fun b hb => Nat.lt_of_lt_of_le (hnx b hb) (by simp only [stF, St.app]; omega)) hok (C.M.leRefl _ _) (Ext.refl _ _ _) (fun _ h => h)
    · simp only [stF]; rw [get_app, ho]; exact ht.put _ (dst i hi) (.tup [] #[] rfl (by simp))
    · simp only [stF]; rw [geth_app, ho]; exact hh
  | true =>
    simp only [if_true]
    obtain ⟨h1, h2⟩ := he.on hon
    refine h1 _ _ (fun _ _ => rfl) (fun _ _ => rfl) fn E a w x K ht hh hok (fun b hb hU => ?_) fun u E' w' x' hr hhi hok' hle hx hu => ?_
    · rw [h2] at hb
      have := (List.mem_range'.1 hb)
      obtain ⟨m, _, rfl⟩ := this
      have := hnx _ hU
      omega
    · have hu' : ∀ b, E.U b → E'.U b := fun b hb => (hu b).2 (.inl hb)
      refine next E' _ w' x' ?_ ?_ (fun b hb => ?_) hok' hle hx hu'
      · simp only [stF]; rw [get_app]; exact (ht.mono hx hu' hh.prfr).put _ (dst i hi) hr
      · simp only [stF]; rw [geth_app]; exact hhi
      · simp only [stF, St.app]
        rcases (hu b).1 hb with g | g
        · have := hnx b g; omega
        · rw [h2] at g
          obtain ⟨m, hm, rfl⟩ := List.mem_range'.1 g
          omega

/-- a region whose order is the text's -/
theorem seq_region {ops : Array Oper} {tb : Nat → Ent} {st : St} (he : ∀ i, i < ops.size → EntOk C N ops (opAt ops i) (tb i) (stF (opAt ops) tb st i)) (hd : dstOk N ops = true) (hg : ∀ i j want, i < ops.size → (opAt ops i).guard = some (j, want) → j < ops.size) {fn : FuncId} {E₀ : Emb} {w₀ : World} {x₀ : C.M.X} {Q : Exit → Act → World → C.M.X → Prop}
    (fin : ∀ E a w x, TInv N E (get (stF (opAt ops) tb st ops.size).T) a w → HInv E (geth (stF (opAt ops) tb st ops.size).H) w → (∀ b, E.U b → b < (stF (opAt ops) tb st ops.size).nx) → C.M.ok x E w → C.M.le x₀ w₀.heap.size x → Ext E₀.U E₀ w₀ E w → (∀ b, E₀.U b → E.U b) → Q .normal a w x) :
    ∀ (d i : Nat), i + d = ops.size → ∀ E a w x, TInv N E (get (stF (opAt ops) tb st i).T) a w → HInv E (geth (stF (opAt ops) tb st i).H) w → (∀ b, E.U b → b < (stF (opAt ops) tb st i).nx) → C.M.ok x E w → C.M.le x₀ w₀.heap.size x → Ext E₀.U E₀ w₀ E w → (∀ b, E₀.U b → E.U b) → C.M.opsM fn ops Q (List.range' i d) a w x := by
  intro d
  induction d with
  | zero =>
    intro i hi E a w x h1 h2 h3 hok hle h4 h5
    have : i = ops.size := by omega
    subst this
    exact fin E a w x h1 h2 h3 hok hle h4 h5
  | succ d ih =>
    intro i hi E a w x h1 h2 h3 hok hle h4 h5
    rw [List.range'_succ]
    refine ent_step (K := fun a w x => C.M.opsM fn ops Q (List.range' (i + 1) d) a w x) (by omega) (he i (by omega)) hd h1 h2 h3 hok (fun j want => hg i j want (by omega)) fun E' a' w' x' g1 g2 g3 hok' hle' g4 g5 => ?_
    exact ih (i + 1) (by omega) E' a' w' x' g1 g2 g3 hok' (C.M.leTrans hle hle' h4.sz) (h4.trans' g4 h5) fun b hb => g5 b (h5 b hb)

theorem apart_of {ops : Array Oper} {o o' : Oper} {e e' : Eff} (h : apB ops o o' (FP.of e) (FP.of e') = true) : Apart ops o o' e e' := by
  simp only [apB, Bool.and_eq_true, List.all_eq_true, FP.of, Bool.not_eq_true', List.contains_eq_mem, decide_eq_false_iff_not] at h
  obtain ⟨h1, h2, h3⟩ := h
  obtain ⟨a1, a2, a3⟩ := Oper.apart_spec h1
  refine ⟨a1, a3, fun d hd => a2 d hd, fun p hp => (h2 p.1 (List.mem_map.2 ⟨p, hp, rfl⟩)).1, fun p hp => h3 p.1 (List.mem_map.2 ⟨p, hp, rfl⟩), fun p hp q hq e => (h2 p.1 (List.mem_map.2 ⟨p, hp, rfl⟩)).2 (e ▸ List.mem_map.2 ⟨q, hq, rfl⟩)⟩

theorem aw_region (hm : C.P.follows .mixedOrders = true) {id : Nat} {ops : Array Oper} {draw : Bool} {st : St} {Q : Exit → St → Prop} (h : rg C N draw ops ops.toList [] st fun st' => Q .normal st') : AWp C N k (.region id ops draw) st Q := by
  intro fn E a w x hI
  obtain ⟨tab, st', hl, hr, hc, hq⟩ := rg_out h
  simp only [List.reverse_nil, List.nil_append, chk, Bool.and_eq_true, Bool.or_eq_true, Bool.not_eq_true'] at hc
  obtain ⟨⟨hd, hgs⟩, hc⟩ := hc
  let tb : Nat → Ent := fun i => tab.getD i offEnt
  have htb : ∀ i t, tab[i]? = some t → tb i = t := fun i t ht => by simp [tb, List.getD, ht]
  have hop : ∀ i o, ops.toList[i]? = some o → opAt ops i = o := fun i o ho => opAt_of ho
  have ent : ∀ i, i < ops.size → EntOk C N ops (opAt ops i) (tb i) (stF (opAt ops) tb st i) := fun i hi => runs_ent hr _ _ hop htb i (by simpa using hi)
  have fin : stF (opAt ops) tb st ops.size = st' := by
    have := runs_end hr _ _ hop htb hl
    simpa using this
  have gsz : ∀ i j want, i < ops.size → (opAt ops i).guard = some (j, want) → j < ops.size := fun i j want hi hg => by
    have := List.all_eq_true.1 hgs (opAt ops i) (by rw [Array.mem_toList_iff]; exact Array.mem_of_getElem? (opAt_some hi))
    simpa [hg] using this
  have done : ∀ E' a' w' (x' : C.M.X), TInv N E' (get st'.T) a' w' → HInv E' (geth st'.H) w' → (∀ b, E'.U b → b < st'.nx) → C.M.ok x' E' w' → C.M.le x w.heap.size x' → Ext E.U E w E' w' → (∀ b, E.U b → E'.U b) → ∃ st' E'', Q .normal st' ∧ Inv C.M N k E'' st' a' w' x' ∧ Ext (· < k) E w E'' w' ∧ C.M.le x w.heap.size x' := fun E' a' w' x' h1 h2 h3 hok hle h4 h5 =>
    ⟨st', E', hq, ⟨h1, h2, h3, (fun b hb => h5 b (hI.k b hb)), hok⟩, h4.weaken fun b hb => hI.k b hb, hle⟩
  cases draw with
  | false =>
    refine C.sound.region ?_
    rw [List.range_eq_range']
    exact seq_region ent hd gsz (x₀ := x) (fun E' a' w' x' h1 h2 h3 hok hle h4 h5 => done E' a' w' x' (fin ▸ h1) (fin ▸ h2) (fin ▸ h3) hok hle h4 h5) ops.size 0 (by omega) E a w x hI.t hI.h hI.nx hI.ok (C.M.leRefl _ _) (Ext.refl _ _ _) fun _ h => h
  | true =>
    obtain ⟨⟨he, hgo⟩, hp⟩ := hc.resolve_left (by simp)
    have guards : ∀ i, i < ops.size → ∀ j want, (opAt ops i).guard = some (j, want) → j < i ∧ bef ops j i = true := fun i hi j want hg => by
      have := List.all_eq_true.1 hgo i (List.mem_range.2 hi)
      simpa [hg] using this
    have fp : ∀ i, i < ops.size → (tab.map fun t => FP.of t.e).getD i ⟨[], []⟩ = FP.of (tb i).e := fun i hi => by
      have hi' : i < tab.length := by rw [hl]; simpa using hi
      simp [tb, List.getD, hi']
    have T : Tab C.M ops N (get st.T) (geth st.H) st.nx (opAt ops) tb (bef ops) := by
      refine ⟨fun i hi => opAt_some hi, fun i hi x hx => ?_, fun i hi => ?_, fun i hi hon => ?_, fun i hi => (ent i hi).off, fun i hi b hb => ?_, fun i hi j hj => ?_⟩
      · have := List.all_eq_true.1 hd (opAt ops i) (by rw [Array.mem_toList_iff]; exact Array.mem_of_getElem? (opAt_some hi))
        simpa [hx] using this
      · have g := (ent i hi).guard
        cases hgu : (opAt ops i).guard with
        | none => rw [hgu] at g; exact g
        | some jw =>
          obtain ⟨j, want⟩ := jw
          rw [hgu] at g
          obtain ⟨d, r, h1, h2, h3⟩ := g
          obtain ⟨g1, g2⟩ := guards i hi j want hgu
          exact ⟨g1, g2, d, r, h1, by rw [← stF_T]; exact h2, h3⟩
      · have := ((ent i hi).on hon).1
        rwa [stF_T, stF_H] at this
      · cases hon : (tb i).on with
        | false => rw [(ent i hi).off hon] at hb; simp [offEnt] at hb
        | true =>
          have hnw := ((ent i hi).on hon).2
          rw [hnw] at hb
          obtain ⟨m, hm', rfl⟩ := List.mem_range'.1 hb
          have := stF_nx (opAt ops) tb st 0 i
          simp only [Nat.zero_add, stF] at this
          refine ⟨by omega, fun j hj hbj => ?_⟩
          cases honj : (tb j).on with
          | false => rw [(ent j (by omega)).off honj] at hbj; simp [offEnt] at hbj
          | true =>
            have hnwj := ((ent j (by omega)).on honj).2
            rw [hnwj] at hbj
            obtain ⟨m', hm'', e⟩ := List.mem_range'.1 hbj
            have h1 := stF_nx (opAt ops) tb st (j + 1) (i - (j + 1))
            rw [show j + 1 + (i - (j + 1)) = i by omega] at h1
            simp only [stF, St.app] at h1
            omega
      · have := List.all_eq_true.1 hp i (List.mem_range.2 hi)
        have := List.all_eq_true.1 this j (List.mem_range.2 hj)
        simp only [Bool.or_eq_true] at this
        refine this.imp (fun h => h) fun h => ?_
        rw [fp j (by omega), fp i hi] at h
        exact apart_of h
    refine C.sound.regionAny hm fun w₁ hw1 hio => ?_
    have hI' : TInv N E (get st.T) a w₁ ∧ HInv E (geth st.H) w₁ ∧ Ext E.U E w E w₁ := by
      obtain ⟨g1, g2⟩ := hI.h.same (w' := w₁) hw1 hio
      exact ⟨hI.t.mono g2 (fun _ h => h) hI.h.prfr, g1, g2⟩
    have e0 : ∀ m T0, Tf (opAt ops) tb (fun i => decide (ops.size ≤ i)) T0 m = (if m ≤ ops.size then T0 else Tf (opAt ops) tb (fun i => decide (ops.size ≤ i)) T0 m) := fun m T0 => by
      split
      · rename_i hle
        induction m with
        | zero => rfl
        | succ m ih => simp only [Tf]; rw [if_neg (by simp; omega)]; exact ih (by omega)
      · rfl
    have e1 : ∀ m H0, Hf tb (fun i => decide (ops.size ≤ i)) H0 m = (if m ≤ ops.size then H0 else Hf tb (fun i => decide (ops.size ≤ i)) H0 m) := fun m H0 => by
      split
      · rename_i hle
        induction m with
        | zero => rfl
        | succ m ih => simp only [Hf]; rw [if_neg (by simp; omega)]; exact ih (by omega)
      · rfl
    refine T.any (before_ok ops he) (E₀ := E) (w₀ := w) (x₀ := x) (fun E' a' w' x' h1 h2 hok hle h3 h4 h5 => ?_) ops.size (Array.replicate ops.size false) (fun i => decide (ops.size ≤ i)) E a _ x (by simp) (by simp) (fun i hi => by simp [Array.getD_eq_getD_getElem?, hi]) (fun i hi => by simpa using hi) (fun k hk hs => by simp at hs; omega)
      (by rw [e0, if_pos (Nat.le_refl _)]; exact hI'.1) (by rw [e1, if_pos (Nat.le_refl _)]; exact hI'.2.1) (C.sound.okExt hI.ok hI'.2.2) (C.M.leRefl _ _) hI'.2.2 (fun _ h => h) (fun b hb => .inl (hI.nx b hb))
    refine done E' a' w' x' ?_ ?_ (fun b hb => ?_) hok hle h3 h4
    · rw [← fin, stF_T]; exact h1
    · rw [← fin, stF_H]; exact h2
    · rw [← fin]
      rcases h5 b hb with g | ⟨j, hj, g⟩
      · have := stF_nx (opAt ops) tb st 0 ops.size
        simp only [Nat.zero_add, stF] at this
        omega
      · cases hon : (tb j).on with
        | false => rw [(ent j hj).off hon] at g; simp [offEnt] at g
        | true =>
          have hnw := ((ent j hj).on hon).2
          rw [hnw] at g
          obtain ⟨m, hm', rfl⟩ := List.mem_range'.1 g
          have h1 := stF_nx (opAt ops) tb st (j + 1) (ops.size - (j + 1))
          rw [show j + 1 + (ops.size - (j + 1)) = ops.size by omega] at h1
          simp only [stF, St.app] at h1
          omega

/-! code -/
def vc (C : Ctx) (N k : Nat) : Code → St → (Exit → St → Prop) → Prop
  | .skip, st, Q => Q .normal st
  | .label _, st, Q => Q .normal st
  | .seq a b, st, Q => vc C N k a st fun e st' => match e with
    | .normal => vc C N k b st' Q
    | e => Q e st'
  | .cond c a b, st, Q => match ev (get st.T) c with
    | .cv (.sc (.bool q)) => Br q (vc C N k a st Q) (vc C N k b st Q)
    | _ => False
  | .block id c, st, Q => vc C N k c st fun e st' => match e with
    | .exit id' => match Nat.beq id' id with
      | true => Q .normal st'
      | false => Q (.exit id') st'
    | e => Q e st'
  | .exit id, st, Q => Q (.exit id) st
  | .ret, st, Q => Q .ret st
  | .region _ ops draw, st, Q => rg C N draw ops ops.toList [] st fun st' => Q .normal st'
  | c, st, Q => AW C N k c st Q

theorem AWp.mono {c : Code} {st : St} {Q Q' : Exit → St → Prop} (h : AWp C N k c st Q) (hq : ∀ e st, Q e st → Q' e st) : AWp C N k c st Q' := fun fn E a w x hI => C.sound.mono (h fn E a w x hI) fun e a w x ⟨st', E', h1, h2, h3⟩ => ⟨st', E', hq _ _ h1, h2, h3⟩

theorem vc_ok (hm : C.P.follows .mixedOrders = true) : ∀ (c : Code) (st : St) (Q : Exit → St → Prop), vc C N k c st Q → AWp C N k c st Q
  | .skip, st, Q, h => fun fn E a w x hI => C.sound.skip ⟨st, E, h, hI, Ext.refl _ _ _, C.M.leRefl _ _⟩
  | .label _, st, Q, h => fun fn E a w x hI => C.sound.label ⟨st, E, h, hI, Ext.refl _ _ _, C.M.leRefl _ _⟩
  | .seq x y, st, Q, h => fun fn E a w z hI => by
    refine C.sound.seq (C.sound.mono (vc_ok hm x st _ h fn E a w z hI) fun e a' w' z' ⟨st', E', h1, h2, h3, h4⟩ => ?_)
    cases e with
    | normal => exact C.sound.mono (vc_ok hm y st' Q h1 fn E' a' w' z' h2) fun e a w z ⟨st'', E'', g1, g2, g3, g4⟩ => ⟨st'', E'', g1, g2, h3.trans g3, C.M.leTrans h4 g4 h3.sz⟩
    | _ => exact ⟨st', E', h1, h2, h3, h4⟩
  | .cond c x y, st, Q, h => fun fn E a w z hI => by
    simp only [vc] at h
    split at h
    · rename_i q hq
      have hr := rep_ev hI.t c
      rw [hq] at hr
      have he := rep_sc hr
      refine C.sound.cond he ?_
      cases q with
      | true => exact vc_ok hm x st Q (h.1 rfl) fn E a w z hI
      | false => exact vc_ok hm y st Q (h.2 rfl) fn E a w z hI
    · exact h.elim
  | .block id c, st, Q, h => fun fn E a w z hI => by
    refine C.sound.block (C.sound.mono (vc_ok hm c st _ h fn E a w z hI) fun e a' w' z' ⟨st', E', h1, h2, h3⟩ => ?_)
    cases e with
    | exit id' =>
      simp only [Mode.blockM] at h1 ⊢
      by_cases e : id' = id
      · subst e
        rw [if_pos rfl]
        have : Nat.beq id' id' = true := Nat.beq_refl id'
        rw [this] at h1
        exact ⟨st', E', h1, h2, h3⟩
      · rw [if_neg e]
        have : Nat.beq id' id = false := by cases hb : Nat.beq id' id with
          | true => exact absurd (Nat.eq_of_beq_eq_true hb) e
          | false => rfl
        rw [this] at h1
        exact ⟨st', E', h1, h2, h3⟩
    | _ => exact ⟨st', E', h1, h2, h3⟩
  | .exit id, st, Q, h => fun fn E a w x hI => C.sound.exit ⟨st, E, h, hI, Ext.refl _ _ _, C.M.leRefl _ _⟩
  | .ret, st, Q, h => fun fn E a w x hI => C.sound.ret ⟨st, E, h, hI, Ext.refl _ _ _, C.M.leRefl _ _⟩
  | .region id ops draw, st, Q, h => by
    simp only [vc] at h
    exact aw_region hm h
  | .loop c, st, Q, h => by simp only [vc] at h; exact h.out
  | .rangeFunc .., st, Q, h => by simp only [vc] at h; exact h.out
  | .scope _, st, Q, h => by simp only [vc] at h; exact h.out
  | .goto _, st, Q, h => by simp only [vc] at h; exact h.out
  | .refuse _, st, Q, h => by simp only [vc] at h; exact h.out
end
end Go.Proofs.YtdjoodbidcncaaaGreatDoor.AW
