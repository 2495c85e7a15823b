/- Operations: addresses of parts, parts, slices. -/
import Derived.Test.YtnffoddeppimkaaAwE
namespace Go.Proofs.Ytnffoddeppimkaa.AW
open Go

section
variable {C : Ctx} {o : Oper} {N : Nat} {T : Nat → AV} {H : Nat → Option Block}

theorem field_at {s : TypeId} {fs : List (Nat × Nat)} {f off ft : Nat} (hk : C.kd s = some (.strct fs)) (hf : fs[f]? = some (off, ft)) : ∃ F fld, C.P.underlying s = some (.struct F) ∧ F[f]? = some fld ∧ fld.offset = off ∧ fld.type = ft := by
  obtain ⟨d, u, F, rfl, hF⟩ := kind_ok hk
  rw [← hF] at hf
  simp only [List.getElem?_map, Option.map_eq_some_iff, Prod.mk.injEq] at hf
  obtain ⟨fld, h1, h2, h3⟩ := hf
  exact ⟨F, fld, u, by simpa using h1, h2, h3⟩

def vFAddr (C : Ctx) (s : TypeId) (x : AV) (f : Nat) (K : Eff → Prop) : Prop := match C.kd s with
  | some (.strct fs) => match fs[f]? with
    | some (off, ft) => match C.ti ft with
      | some i => ck (i.sz != 0) <| match x with
        | .ptr b st j k => K ⟨.ptr b st j (k + off), [], [], []⟩
        | .cv (.rp cs) => K ⟨.cv (.rp (cs.drop off)), [], [], []⟩
        | _ => False
      | none => False
    | none => False
  | _ => False
theorem vFAddr_ok {nx : Nat} {K : Eff → Prop} {s : TypeId} {x : Operand} {f : Nat} (ho : o.op = .fieldAddr s x f) (h : vFAddr C s (ev T x) f K) : Does C o N T H nx K := by
  have mx : x ∈ o.op.operands := by simp [ho, Op.operands]
  unfold vFAddr at h
  split at h
  · rename_i fs hk
    split at h
    · rename_i off ft hf
      split at h
      · rename_i i hi
        replace h := ck_out h
        obtain ⟨hz, h⟩ := h
        have hz : i.sz ≠ 0 := by simpa using hz
        obtain ⟨F, fld, u, hF, h1, h2⟩ := field_at hk hf
        have run : ∀ (a : Act) (w : World) (p : Addr), a.eval x = .pointer (some p) → (execOp a.eval o).run C.P w = .ok (.value (.pointer (some (p.add off)))) w := fun a w p e => by
          have hs := (C.ok _ _ hi).run_sizeOf w
          simp only [execOp, ho, Instr.fieldAt, e, Sem.run_bind, run_underlying u, Result.andThen_ok, hF, Instr.sureAddr, Sem.run_pure, fieldPlace, h2, hs]
          rw [if_neg hz]
          simp [h1]
        split at h
        · rename_i b st j k hx
          refine does_val h fun T' H' g1 _ E a w ht _ => ?_
          have r := rep_at ht (g1 x mx) hx
          obtain ⟨hU, e⟩ := rep_ptr r
          refine ⟨_, w, run a w _ e, rfl, ?_⟩
          rw [addr_add, Nat.add_assoc]
          exact .ptr b st j (k + off) hU (rep_ptr_g r)
        · rename_i cs hx
          refine does_val h fun T' H' g1 _ E a w ht _ => ?_
          obtain ⟨p, vs, e, g2, g3, g4, g5⟩ := rep_rp (rep_at ht (g1 x mx) hx)
          refine ⟨_, w, run a w _ e, rfl, .cv _ _ ?_⟩
          rw [addr_add' g2]
          exact .rp _ _ (fun k => vs (off + k)) rfl g3 (fun k y hy => by rw [List.getElem?_drop] at hy; have := g4 _ y hy; rwa [← Nat.add_assoc] at this) (fun k y hy => by rw [List.getElem?_drop] at hy; exact g5 _ y hy)
        · exact h.elim
      · exact h.elim
    · exact h.elim
  · exact h.elim

theorem extract_getD {vs : Array Value} {a n k : Nat} (hk : k < n) (h : a + n ≤ vs.size) : (vs.extract a (a + n)).getD k undef = vs.getD (a + k) undef := by
  simp only [Array.getD_eq_getD_getElem?, Array.getElem?_extract]
  rw [if_pos (by omega)]
/-- a part of a struct's value -/
theorem run_part {E : Emb} {w : World} {i : TI} {t : TypeId} (hi : TIok C.P t i) {vs : Array Value} {cs : List AV} {off : Nat} {v : AV} (hl : ((cs.drop off).take i.sz).length = i.sz) (hm : mkVar i.agg ((cs.drop off).take i.sz) = some v) (hs : vs.size = cs.length)
    (hr : ∀ k x, cs[k]? = some x → RepA w E x (vs.getD k undef)) : ∃ u, (part t vs off).run C.P w = .ok u w ∧ RepA w E v u := by
  have hlen : off + i.sz ≤ cs.length ∨ i.sz = 0 := by simp only [List.length_take, List.length_drop] at hl; omega
  simp only [part, Sem.run_bind, hi.run_isAgg, Result.andThen_ok]
  cases ha : i.agg with
  | true =>
    simp only [mkVar, ha, if_true, Option.some.injEq] at hm
    subst hm
    refine ⟨_, by simp [hi.run_sizeOf]; rfl, .agg _ _ ?_ fun k x hx => ?_⟩
    · rw [hl]
      simp only [Array.size_extract]
      omega
    · obtain ⟨h1, h2⟩ := take_drop_get hx
      rw [extract_getD h2 (by omega)]
      exact hr _ _ h1
  | false =>
    simp only [mkVar, ha] at hm
    split at hm
    · rename_i h; cases h
    · split at hm
      · rename_i y he
        cases hm
        have h1 : ((cs.drop off).take i.sz)[0]? = some v := by rw [he]; rfl
        obtain ⟨h1, h2⟩ := take_drop_get h1
        rw [Nat.add_zero] at h1
        have hlt : off < vs.size := by rw [hs]; exact (List.getElem?_eq_some_iff.1 h1).1
        refine ⟨vs.getD off undef, ?_, hr _ _ h1⟩
        simp [hlt, Array.getD_eq_getD_getElem?]
      · cases hm

def vField (C : Ctx) (s : TypeId) (x : AV) (f : Nat) (K : Eff → Prop) : Prop := match C.kd s, x with
  | some (.strct fs), .agg cs => match fs[f]? with
    | some (off, ft) => match C.ti ft with
      | some i => match mkVar i.agg ((cs.drop off).take i.sz), ((cs.drop off).take i.sz).length == i.sz with
        | some v, true => K ⟨v, [], [], []⟩
        | _, _ => False
      | none => False
    | none => False
  | _, _ => False
theorem vField_ok {nx : Nat} {K : Eff → Prop} {s : TypeId} {x : Operand} {f : Nat} (ho : o.op = .field s x f) (h : vField C s (ev T x) f K) : Does C o N T H nx K := by
  have mx : x ∈ o.op.operands := by simp [ho, Op.operands]
  unfold vField at h
  split at h
  · rename_i fs cs hk hx
    split at h
    · rename_i off ft hf
      split at h
      · rename_i i hi
        split at h
        · rename_i v hm hl
          obtain ⟨F, fld, u, hF, h1, h2⟩ := field_at hk hf
          refine does_val h fun T' H' g1 _ E a w ht _ => ?_
          obtain ⟨vs, e, hs, hr⟩ := rep_agg (rep_at ht (g1 x mx) hx)
          obtain ⟨y, hy, hv⟩ := run_part (C := C) (C.ok _ _ hi) (by simpa using hl) hm hs hr
          refine ⟨y, w, ?_, rfl, hv⟩
          simp only [execOp, ho, Instr.field, e, Sem.run_bind, run_underlying u, Result.andThen_ok, hF, asAgg, Sem.run_pure, h2, h1]
          simp [hy]
        · exact h.elim
      · exact h.elim
    · exact h.elim
  · exact h.elim

/-- a whole number that is a place -/
def AtNat (x : AV) (K : Nat → Prop) : Prop := match x with
  | .cv (.sc (.int _ a)) => ∃ j : Nat, (j : Int) = a ∧ K j
  | _ => False
theorem AtNat.out {x : AV} {K : Nat → Prop} (h : AtNat x K) : ∃ k j, x = .cv (.sc (.int k ((j : Nat) : Int))) ∧ K j := by
  unfold AtNat at h
  split at h
  · obtain ⟨j, rfl, h⟩ := h; exact ⟨_, j, rfl, h⟩
  · exact h.elim

def vIAddr (C : Ctx) (t : TypeId) (x ix : AV) (K : Eff → Prop) : Prop := match C.kd t with
  | some (.slice e) => match C.ti e with
    | some i => AtNat ix fun j => match x with
      | .own b st o n _ => ck (st == i.sz) <| j < n ∧ K ⟨.ptr b st (o + j) 0, [], [], []⟩
      | .cv (.ro st es _) => ck (st == i.sz) <| ∃ e, es[j]? = some e ∧ K ⟨.cv (.rp e), [], [], []⟩
      | _ => False
    | none => False
  | some (.arr n e) => match C.ti e with
    | some i => AtNat ix fun j => match x with
      | .ptr b st r k => j < n ∧ K ⟨.ptr b st r (k + j * i.sz), [], [], []⟩
      | _ => False
    | none => False
  | _ => False
theorem vIAddr_ok {nx : Nat} {K : Eff → Prop} {t : TypeId} {x ix : Operand} (ho : o.op = .indexAddr t x ix) (h : vIAddr C t (ev T x) (ev T ix) K) : Does C o N T H nx K := by
  have mx : x ∈ o.op.operands := by simp [ho, Op.operands]
  have mi : ix ∈ o.op.operands := by simp [ho, Op.operands]
  unfold vIAddr at h
  split at h
  · rename_i e hk
    obtain ⟨d, u, rfl⟩ := kind_ok hk
    split at h
    · rename_i i hi
      obtain ⟨k, j, hix, h⟩ := h.out
      have run : ∀ (a : Act) (w : World) (p : Addr) (n c : Nat), a.eval x = .slice (some p) n c → a.eval ix = .int k (j : Int) → j < n → (execOp a.eval o).run C.P w = .ok (.value (.pointer (some (p.add (j * i.sz))))) w := fun a w p n c e1 e2 hj => by
        have hs := (C.ok _ _ hi).run_sizeOf w
        simp only [execOp, ho, Instr.indexAt, e1, e2, asIntOf, Sem.run_bind, Sem.run_pure, Result.andThen_ok, run_underlying u]
        have : (0 : Int) ≤ (j : Int) ∧ (j : Int) < (n : Int) := by omega
        simp [this, hs, hj]
      split at h
      · rename_i b st o' n cap hx
        replace h := ck_out h
        obtain ⟨hst, hj, h⟩ := h
        have hst : st = i.sz := by simpa using hst
        refine does_val h fun T' H' g1 _ E a w ht _ => ?_
        obtain ⟨c, ad, e1, hU, hn, hc, hh⟩ := rep_own (rep_at ht (g1 x mx) hx)
        rcases hh with ⟨hg, rfl, hsz⟩ | ⟨_, h0, _⟩
        · refine ⟨_, w, run a w _ n c e1 (rep_sc (rep_at ht (g1 ix mi) hix)) hj, rfl, ?_⟩
          rw [addr_add, hst, ← Nat.add_mul]
          have := RepA.ptr (w := w) b i.sz (o' + j) 0 hU hg
          simpa using this
        · omega
      · rename_i st es cap hx
        replace h := ck_out h
        obtain ⟨hst, e', he, h⟩ := h
        have hst : st = i.sz := by simpa using hst
        refine does_val h fun T' H' g1 _ E a w ht _ => ?_
        obtain ⟨ad, n, c, vs, hv, hn, hc, hcap, hel, hcell, hrep⟩ := rep_ro (rep_at ht (g1 x mx) hx)
        obtain ⟨p, rfl, hsp, hpr, hcl⟩ := hcell j e' he
        refine ⟨_, w, run a w p n c hv (rep_sc (rep_at ht (g1 ix mi) hix)) (by rw [hn]; exact (List.getElem?_eq_some_iff.1 he).1), rfl, .cv _ _ ?_⟩
        rw [addr_add' hsp, ← hst]
        exact .rp _ _ (fun q => vs j q) rfl hpr (fun q y hy => by have := hcl q y hy; rwa [← Nat.add_assoc] at this) (fun q y hy => hrep j e' q y he hy)
      · exact h.elim
    · exact h.elim
  · rename_i n e hk
    obtain ⟨d, u, rfl⟩ := kind_ok hk
    split at h
    · rename_i i hi
      obtain ⟨k, j, hix, h⟩ := h.out
      split at h
      · rename_i b st r q hx
        obtain ⟨hj, h⟩ := h
        refine does_val h fun T' H' g1 _ E a w ht _ => ?_
        have rr := rep_at ht (g1 x mx) hx
        obtain ⟨hU, e1⟩ := rep_ptr rr
        have e2 := rep_sc (rep_at ht (g1 ix mi) hix)
        have hs := (C.ok _ _ hi).run_sizeOf w
        refine ⟨.pointer (some ((⟨E.blk b, r * st + q, none⟩ : Addr).add (j * i.sz))), w, ?_, rfl, ?_⟩
        · simp only [execOp, ho, Instr.indexAt, e1, e2, asIntOf, Sem.run_bind, Sem.run_pure, Result.andThen_ok, run_underlying u, Instr.sureAddr]
          have : (0 : Int) ≤ (j : Int) ∧ (j : Int) < (n : Int) := by omega
          simp [this, hs, hj]
        · rw [addr_add, Nat.add_assoc]
          exact .ptr _ _ _ _ hU (rep_ptr_g rr)
      · exact h.elim
    · exact h.elim
  · exact h.elim

/-- a string's byte; an element of an array's value -/
def vIndex (C : Ctx) (t : TypeId) (x ix : AV) (K : Eff → Prop) : Prop := match C.kd t, x with
  | some .str, .cv (.sc (.string s)) => AtNat ix fun j => ∃ b, s[j]? = some b ∧ K ⟨iv .u8 b.toNat, [], [], []⟩
  | some (.arr n e), .agg cs => match C.ti e with
    | some i => AtNat ix fun j => j < n ∧ ∃ v, mkVar i.agg ((cs.drop (j * i.sz)).take i.sz) = some v ∧ ((cs.drop (j * i.sz)).take i.sz).length = i.sz ∧ K ⟨v, [], [], []⟩
    | none => False
  | _, _ => False
theorem vIndex_ok {nx : Nat} {K : Eff → Prop} {t : TypeId} {x ix : Operand} (ho : o.op = .index t x ix) (h : vIndex C t (ev T x) (ev T ix) K) : Does C o N T H nx K := by
  have mx : x ∈ o.op.operands := by simp [ho, Op.operands]
  have mi : ix ∈ o.op.operands := by simp [ho, Op.operands]
  unfold vIndex at h
  split at h
  · rename_i s hk hx
    obtain ⟨d, u, rfl⟩ := kind_ok hk
    obtain ⟨k, j, hix, b, hb, h⟩ := h.out
    refine does_val h fun T' H' g1 _ E a w ht _ => ⟨.int .u8 b.toNat, w, ?_, rfl, .cv _ _ (.sc _ rfl)⟩
    simp only [execOp, ho, Instr.index, rep_sc (rep_at ht (g1 x mx) hx), rep_sc (rep_at ht (g1 ix mi) hix), asIntOf, Sem.run_bind, Sem.run_pure, Result.andThen_ok, run_underlying u]
    simp [hb]
  · rename_i n e cs hk hx
    obtain ⟨d, u, rfl⟩ := kind_ok hk
    split at h
    · rename_i i hi
      obtain ⟨k, j, hix, hj, v, hm, hl, h⟩ := h.out
      refine does_val h fun T' H' g1 _ E a w ht _ => ?_
      obtain ⟨vs, e1, hs, hr⟩ := rep_agg (rep_at ht (g1 x mx) hx)
      obtain ⟨y, hy, hv⟩ := run_part (C := C) (C.ok _ _ hi) hl hm hs hr
      refine ⟨y, w, ?_, rfl, hv⟩
      have hz := (C.ok _ _ hi).run_sizeOf w
      have : (0 : Int) ≤ (j : Int) ∧ (j : Int) < (n : Int) := by omega
      simp only [execOp, ho, Instr.index, e1, rep_sc (rep_at ht (g1 ix mi) hix), asIntOf, Sem.run_bind, Sem.run_pure, Result.andThen_ok, run_underlying u]
      simp [this, hj, hz, hy]
    · exact h.elim
  · exact h.elim

/-! slices of slices -/
def Bnd (x : Option AV) (d : Nat) (K : Nat → Prop) : Prop := match x with
  | none => K d
  | some x => AtNat x K
def bndA (x : Option AV) (d j : Nat) : Prop := match x with
  | none => j = d
  | some y => ∃ k, y = .cv (.sc (.int k (j : Int)))
def bndV (x : Option Value) (d j : Nat) : Prop := match x with
  | none => j = d
  | some y => ∃ k, y = .int k (j : Int)
theorem bnd_out {x : Option AV} {d : Nat} {K : Nat → Prop} (h : Bnd x d K) : ∃ j, K j ∧ bndA x d j := by
  cases x with
  | none => exact ⟨d, h, rfl⟩
  | some y => obtain ⟨k, j, e, h⟩ := AtNat.out h; exact ⟨j, h, k, e⟩
/-- the three bounds -/
theorem run_bounds {w : World} {isS : Bool} {n c l h m : Nat} {lo hi mx : Option Value} (hlo : bndV lo 0 l) (hhi : bndV hi n h) (hmx : bndV mx c m) (h1 : l ≤ h) (h2 : h ≤ m) (h3 : m ≤ c) (hm : mx.isSome = true → hi.isSome = true) :
    (Instr.sliceBounds isS n c lo hi mx).run C.P w = .ok (l, h, m) w := by
  have one : ∀ (k : IntKind) (j y : Nat) (code : BoundsCode), j ≤ y → (Instr.sliceBound (.int k (j : Int)) y code).run C.P w = .ok j w := fun k j y code hj => by
    simp only [Instr.sliceBound, asIntOf, Sem.run_bind, Sem.run_pure, Result.andThen_ok]
    rw [if_pos ⟨by omega, by omega⟩]; simp
  have h4 : h ≤ c := Nat.le_trans h2 h3
  cases mx <;> cases hi <;> cases lo <;> simp only [bndV] at hlo hhi hmx <;> (try (simp at hm; done)) <;> (try obtain ⟨_, rfl⟩ := hlo) <;> (try obtain ⟨_, rfl⟩ := hhi) <;> (try obtain ⟨_, rfl⟩ := hmx) <;> (try subst hlo) <;> (try subst hhi) <;> (try subst hmx) <;>
    simp [Instr.sliceBounds, one, h1, h2, h3, h4]
theorem bnd_at {z : Option Operand} {d j : Nat} (hz : bndA (z.map (ev T)) d j) (mz : ∀ y, z = some y → y ∈ o.op.operands) {T' : Nat → AV} (g1 : ∀ x ∈ o.op.operands, ev T' x = ev T x) {E : Emb} {a : Act} {w : World} (ht : TInv N E T' a w) : bndV (z.map a.eval) d j := by
  cases z with
  | none => exact hz
  | some y => obtain ⟨k, hy⟩ := hz; exact ⟨k, rep_sc (rep_at ht (g1 y (mz y rfl)) hy)⟩
theorem bnd_mx {z : Option Operand} {d c j : Nat} (hz : bndA (z.map (ev T)) d j) (mz : ∀ y, z = some y → y ∈ o.op.operands) {T' : Nat → AV} (g1 : ∀ x ∈ o.op.operands, ev T' x = ev T x) {E : Emb} {a : Act} {w : World} (ht : TInv N E T' a w) : bndV (z.map a.eval) c (if z.isSome then j else c) := by
  cases z with
  | none => rfl
  | some y => obtain ⟨k, hy⟩ := hz; exact ⟨k, rep_sc (rep_at ht (g1 y (mz y rfl)) hy)⟩

def vSlice (C : Ctx) (t : TypeId) (x : AV) (lo hi mx : Option AV) (K : Eff → Prop) : Prop := ck (!mx.isSome || hi.isSome) <| match C.kd t, x with
  | some .str, .cv (.sc (.string s)) => ck mx.isNone <| Bnd hi s.size fun h => h ≤ s.size ∧ Bnd lo 0 fun l => l ≤ h ∧ K ⟨sv (s.extract l h), [], [], []⟩
  | some (.slice e), .own b st o n cap => match C.ti e with
    | some i => ck (st == i.sz) <| Bnd hi n fun h => h ≤ n ∧ Bnd mx n fun m => (mx.isSome = true → h ≤ m ∧ m ≤ n) ∧ Bnd lo 0 fun l => l ≤ h ∧
        (l = 0 ∧ K ⟨.own b st o h (if mx.isSome then some m else cap), [], [], []⟩ ∨
         l < h ∧ K ⟨.own b st (o + l) (h - l) (if mx.isSome then some (m - l) else cap.map (· - l)), [], [], []⟩ ∨
         l = h ∧ K ⟨.cv (.ro st [] none), [], [], []⟩)
    | none => False
  | some (.slice e), .cv (.ro st es cap) => match C.ti e with
    | some i => ck (st == i.sz) <| Bnd hi es.length fun h => h ≤ es.length ∧ Bnd mx es.length fun m => (mx.isSome = true → h ≤ m ∧ m ≤ es.length) ∧ Bnd lo 0 fun l => l ≤ h ∧
        K ⟨.cv (.ro st ((es.take h).drop l) (if mx.isSome then some (m - l) else cap.map (· - l))), [], [], []⟩
    | none => False
  | some (.slice e), .cv (.sc (.slice none 0 0)) => ck (C.ti e).isSome <| Bnd hi 0 fun h => h = 0 ∧ Bnd mx 0 fun m => m = 0 ∧ Bnd lo 0 fun l => l = 0 ∧ K ⟨.cv (.sc (.slice none 0 0)), [], [], []⟩
  | _, _ => False
theorem vSlice_ok {nx : Nat} {K : Eff → Prop} {t : TypeId} {x : Operand} {lo hi mx : Option Operand} (ho : o.op = .slice t x lo hi mx) (h : vSlice C t (ev T x) (lo.map (ev T)) (hi.map (ev T)) (mx.map (ev T)) K) : Does C o N T H nx K := by
  have mxx : x ∈ o.op.operands := by simp [ho, Op.operands]
  have mlo : ∀ y, lo = some y → y ∈ o.op.operands := by rintro y rfl; simp [ho, Op.operands]
  have mhi : ∀ y, hi = some y → y ∈ o.op.operands := by rintro y rfl; simp [ho, Op.operands]
  have mmx : ∀ y, mx = some y → y ∈ o.op.operands := by rintro y rfl; simp [ho, Op.operands]
  replace h := ck_out h
  obtain ⟨hmh, h⟩ := h
  have hmh : ∀ (a : Act), (mx.map a.eval).isSome = true → (hi.map a.eval).isSome = true := fun a => by cases mx <;> cases hi <;> simp_all
  split at h
  · rename_i s hk hx
    obtain ⟨d, u, rfl⟩ := kind_ok hk
    replace h := ck_out h
    obtain ⟨hm, h⟩ := h
    have hm : mx = none := by cases mx <;> simp at hm ⊢
    obtain ⟨q, ⟨hq, h⟩, hhi⟩ := bnd_out h
    obtain ⟨l, ⟨hl, h⟩, hlo⟩ := bnd_out h
    refine does_val h fun T' H' g1 _ E a w ht _ => ⟨.string (s.extract l q), w, ?_, rfl, .cv _ _ (.sc _ rfl)⟩
    have rb := run_bounds (C := C) (w := w) (isS := false) (mx := none) (m := s.size) (c := s.size) (bnd_at hlo mlo g1 ht) (bnd_at hhi mhi g1 ht) rfl hl hq (Nat.le_refl _) (by simp)
    simp only [execOp, ho, Instr.sliceAt, rep_sc (rep_at ht (g1 x mxx) hx), Sem.run_bind, run_underlying u, Result.andThen_ok, Instr.slice, hm, Option.map_none]
    simp [rb]
  · rename_i e b st o' n cap hk hx
    obtain ⟨d, u, rfl⟩ := kind_ok hk
    split at h
    · rename_i i hi'
      replace h := ck_out h
      obtain ⟨hst, h⟩ := h
      have hst : st = i.sz := by simpa using hst
      obtain ⟨q, ⟨hq, h⟩, hhi⟩ := bnd_out h
      obtain ⟨m, ⟨hm, h⟩, hmx⟩ := bnd_out h
      obtain ⟨l, ⟨hl, h⟩, hlo⟩ := bnd_out h
      -- the capacity behind it
      have run : ∀ T' (g1 : ∀ x ∈ o.op.operands, ev T' x = ev T x) (E : Emb) (a : Act) (w : World) (ht : TInv N E T' a w), ∃ c ad, E.U b ∧ n ≤ c ∧ (∀ x, cap = some x → c = x) ∧ ((¬ E.gh b ∧ ad = some ⟨E.blk b, o' * st, none⟩ ∧ (o' + c) * st ≤ E.sz b) ∨ (E.gh b ∧ n = 0 ∧ c = 0)) ∧
          ∃ m', (if mx.isSome then m' = m else m' = c) ∧ q ≤ m' ∧ m' ≤ c ∧ (execOp a.eval o).run C.P w = .ok (.value (.slice (if m' = l then ad else ad.map (·.add (l * st))) (q - l) (m' - l))) w := fun T' g1 E a w ht => by
        obtain ⟨c, ad, e1, hU, hn, hc, hh⟩ := rep_own (rep_at ht (g1 x mxx) hx)
        refine ⟨c, ad, hU, hn, hc, hh, if mx.isSome then m else c, by split <;> rfl, ?_⟩
        have hqm : q ≤ (if mx.isSome then m else c) ∧ (if mx.isSome then m else c) ≤ c := by
          cases mx with
          | none => simp; omega
          | some y => have := hm (by simp); simp; omega
        refine ⟨hqm.1, hqm.2, ?_⟩
        have rb := run_bounds (C := C) (w := w) (isS := true) (c := c) (m := if mx.isSome then m else c) (bnd_at hlo mlo g1 ht) (bnd_at hhi mhi g1 ht) (bnd_mx hmx mmx g1 ht) hl hqm.1 hqm.2 (hmh a)
        have hs := (C.ok _ _ hi').run_sizeOf w
        simp only [execOp, ho, Instr.sliceAt, e1, Sem.run_bind, run_underlying u, Result.andThen_ok, Instr.slice]
        simp [rb, hs, hst]
      have capk : ∀ (c m' : Nat), (∀ x, cap = some x → c = x) → (if mx.isSome then m' = m else m' = c) → ∀ x, (if (mx.map (ev T)).isSome then some (m - l) else cap.map (· - l)) = some x → m' - l = x := fun c m' hc hm' x hx' => by
        cases mx with
        | none => simp at hx' hm'; obtain ⟨y, hy, rfl⟩ := hx'; rw [hm', hc y hy]
        | some z => simp at hx' hm'; omega
      rcases h with ⟨h0, h⟩ | ⟨h0, h⟩ | ⟨h0, h⟩
      · subst h0
        refine does_val h fun T' H' g1 _ E a w ht _ => ?_
        obtain ⟨c, ad, hU, hn, hc, hh, m', hm', hqm, hmc, hr⟩ := run T' g1 E a w ht
        have ck := capk c m' hc hm'
        refine ⟨_, w, hr, rfl, ?_⟩
        have ea : (if m' = 0 then ad else ad.map (·.add (0 * st))) = ad := by
          split
          · rfl
          · cases ad <;> simp [Addr.add]
        rw [ea, Nat.sub_zero, Nat.sub_zero]
        have ck' : ∀ x, (if (mx.map (ev T)).isSome then some m else cap) = some x → m' = x := fun x hx' => by
          have := ck x; simp only [Nat.sub_zero] at this; exact this (by cases mx <;> simp at hx' ⊢ <;> simp [hx'])
        rcases hh with ⟨hg, rfl, hsz⟩ | ⟨hg, hn0, hc0⟩
        · exact .own _ _ _ _ _ m' hU hg hqm ck' (Nat.le_trans (Nat.mul_le_mul_right _ (show o' + m' ≤ o' + c by omega)) hsz)
        · have : q = 0 := by omega
          have hm0 : m' = 0 := by omega
          subst this; subst hm0
          exact .own0 _ _ _ _ _ hU hg fun x hx' => (ck' x hx').symm
      · refine does_val h fun T' H' g1 _ E a w ht _ => ?_
        obtain ⟨c, ad, hU, hn, hc, hh, m', hm', hqm, hmc, hr⟩ := run T' g1 E a w ht
        refine ⟨_, w, hr, rfl, ?_⟩
        rcases hh with ⟨hg, rfl, hsz⟩ | ⟨hg, hn0, hc0⟩
        · have hne : m' ≠ l := by omega
          rw [if_neg hne]
          simp only [Option.map_some, addr_add]
          rw [← Nat.add_mul]
          exact .own _ _ _ _ _ (m' - l) hU hg (by omega) (capk c m' hc hm') (Nat.le_trans (Nat.mul_le_mul_right _ (show o' + l + (m' - l) ≤ o' + c by omega)) hsz)
        · omega
      · refine does_val h fun T' H' g1 _ E a w ht _ => ?_
        obtain ⟨c, ad, hU, hn, hc, hh, m', hm', hqm, hmc, hr⟩ := run T' g1 E a w ht
        exact ⟨_, w, hr, rfl, .cv _ _ (.ro _ _ _ _ _ _ (fun _ _ => undef) (by simp; omega) (by omega) (by simp) (by simp) (by simp) (by simp))⟩
    · exact h.elim
  · rename_i e st es cap hk hx
    obtain ⟨d, u, rfl⟩ := kind_ok hk
    split at h
    · rename_i i hi'
      replace h := ck_out h
      obtain ⟨hst, h⟩ := h
      have hst : st = i.sz := by simpa using hst
      obtain ⟨q, ⟨hq, h⟩, hhi⟩ := bnd_out h
      obtain ⟨m, ⟨hm, h⟩, hmx⟩ := bnd_out h
      obtain ⟨l, ⟨hl, h⟩, hlo⟩ := bnd_out h
      refine does_val h fun T' H' g1 _ E a w ht _ => ?_
      obtain ⟨ad, n, c, vs, hv, hn, hc, hcap, hel, hcell, hrep⟩ := rep_ro (rep_at ht (g1 x mxx) hx)
      have hqm : q ≤ (if mx.isSome then m else c) ∧ (if mx.isSome then m else c) ≤ c := by
        cases mx with
        | none => simp; omega
        | some y => have := hm (by simp); simp; omega
      have rb := run_bounds (C := C) (w := w) (isS := true) (n := n) (c := c) (m := if mx.isSome then m else c) (bnd_at hlo mlo g1 ht) (bnd_at (d := n) (hn ▸ hhi) mhi g1 ht) (bnd_mx hmx mmx g1 ht) hl hqm.1 hqm.2 (hmh a)
      have hs := (C.ok _ _ hi').run_sizeOf w
      refine ⟨.slice (if (if mx.isSome then m else c) = l then ad else ad.map (·.add (l * st))) (q - l) ((if mx.isSome then m else c) - l), w, ?_, rfl, .cv _ _ (.ro _ _ _ _ _ _ (fun r k => vs (l + r) k) (by simp; omega) (by omega) (fun y hy => ?_) (fun e he => hel e (List.mem_of_mem_take (List.mem_of_mem_drop he))) (fun r e he => ?_) (fun r e k y he hy => ?_))⟩
      · simp only [execOp, ho, Instr.sliceAt, hv, Sem.run_bind, run_underlying u, Result.andThen_ok, Instr.slice]
        simp [rb, hs, hst]
      · cases mx with
        | none => simp at hy ⊢; obtain ⟨y', hy', rfl⟩ := hy; rw [hcap y' hy']
        | some z => simp at hy ⊢; omega
      · rw [List.getElem?_drop, List.getElem?_take] at he
        split at he
        · rename_i hlt
          obtain ⟨p, rfl, hsp, hpr, hcl⟩ := hcell (l + r) e he
          refine ⟨p.add (l * st), ?_, by rw [addr_add' hsp], by rw [addr_add' hsp]; exact hpr, fun k y hy => ?_⟩
          · rw [if_neg (by omega)]; rfl
          · rw [addr_add' hsp]
            have := hcl k y hy
            rw [← this]
            simp only
            congr 1
            rw [Nat.add_mul]; omega
        · cases he
      · rw [List.getElem?_drop, List.getElem?_take] at he
        split at he
        · exact hrep (l + r) e k y he hy
        · cases he
    · exact h.elim
  · rename_i e hk hx
    obtain ⟨d, u, rfl⟩ := kind_ok hk
    replace h := ck_out h
    obtain ⟨hie, h⟩ := h
    obtain ⟨i, hie⟩ := Option.isSome_iff_exists.1 hie
    obtain ⟨q, ⟨rfl, h⟩, hhi⟩ := bnd_out h
    obtain ⟨m, ⟨rfl, h⟩, hmx⟩ := bnd_out h
    obtain ⟨l, ⟨rfl, h⟩, hlo⟩ := bnd_out h
    refine does_val h fun T' H' g1 _ E a w ht _ => ?_
    have rb := run_bounds (C := C) (w := w) (isS := true) (n := 0) (c := 0) (l := 0) (h := 0) (m := 0) (bnd_at hlo mlo g1 ht) (bnd_at hhi mhi g1 ht) (bnd_at hmx mmx g1 ht) (Nat.le_refl _) (Nat.le_refl _) (Nat.le_refl _) (hmh a)
    have hs := (C.ok _ _ hie).run_sizeOf w
    refine ⟨.slice none 0 0, w, ?_, rfl, .cv _ _ (.sc _ rfl)⟩
    simp only [execOp, ho, Instr.sliceAt, rep_sc (rep_at ht (g1 x mxx) hx), Sem.run_bind, run_underlying u, Result.andThen_ok, Instr.slice]
    simp [rb, hs]
  · exact h.elim
end
end Go.Proofs.Ytnffoddeppimkaa.AW
