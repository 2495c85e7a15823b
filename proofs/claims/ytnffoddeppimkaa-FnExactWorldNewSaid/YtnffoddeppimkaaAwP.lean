/- A call, by the callee's contract: the proof of the rule. -/
import Derived.Test.YtnffoddeppimkaaAwO
namespace Go.Proofs.Ytnffoddeppimkaa.AW
open Go

def fnOf : AV → Option (FuncId × List AV × List AV)
  | .cv (.sc (.func (.func f) a b)) => if a.isEmpty && b.isEmpty then some (f, [], []) else none
  | .fn (.func f) fs cs => some (f, fs, cs)
  | _ => none
def mu (bs : List Nat) (k nx : Nat) (c : Nat) : Nat := if c < k then bs.getD c 0 else nx + (c - k)
def wrs (bs NS : List Nat) (k nx m : Nat) (drop : Bool) (Hout : List (Nat × Option Block)) : List (Nat × Option Block) :=
  (if drop then gone NS else []) ++ ((List.range k).map (fun i => (bs.getD i 0, (geth Hout i).map (renB (mu bs k nx)))) ++ (List.range m).map fun j => (nx + j, (geth Hout (k + j)).map (renB (mu bs k nx))))

theorem nodup_inj {α : Type} {l : List α} (h : l.Nodup) {i j : Nat} {hi : i < l.length} {hj : j < l.length} (e : l[i] = l[j]) : i = j := by
  have h := List.pairwise_iff_getElem.1 h
  rcases Nat.lt_trichotomy i j with g | g | g
  · exact absurd e (h i j hi hj g)
  · exact g
  · exact absurd e.symm (h j i hj hi g)
theorem updH_map {H : Nat → Option Block} (g : Nat → Nat) (F : Nat → Option Block) : ∀ (L : List Nat), (∀ i ∈ L, ∀ j ∈ L, g i = g j → i = j) → L.Nodup → ∀ b, (∀ j ∈ L, g j = b → updH H (L.map fun j => (g j, F j)) b = F j) ∧ ((∀ j ∈ L, g j ≠ b) → updH H (L.map fun j => (g j, F j)) b = H b) := by
  intro L
  induction L generalizing H with
  | nil => intro _ _ b; exact ⟨by simp, fun _ => rfl⟩
  | cons i L ih =>
    intro hg hn b
    obtain ⟨h1, h2⟩ := List.nodup_cons.1 hn
    obtain ⟨a1, a2⟩ := ih (H := setH H (g i) (F i)) (fun i hi j hj => hg i (List.mem_cons_of_mem _ hi) j (List.mem_cons_of_mem _ hj)) h2 b
    simp only [List.map_cons, updH]
    refine ⟨fun j hj e => ?_, fun h => ?_⟩
    · rcases List.mem_cons.1 hj with rfl | hj
      · rw [a2 fun j' hj' e' => h1 (hg j' (List.mem_cons_of_mem _ hj') j (List.mem_cons_self ..) (e'.trans e.symm) ▸ hj')]
        simp [setH, e]
      · exact a1 j hj e
    · rw [a2 fun j hj => h j (List.mem_cons_of_mem _ hj)]
      have := h i (List.mem_cons_self ..)
      simp [setH, Ne.symm this]

/-- what the blocks are behind a call -/
theorem wrs_out {H : Nat → Option Block} {bs NS : List Nat} {k nx m : Nat} {drop : Bool} {Hout : List (Nat × Option Block)} (hl : bs.length = k) (hn : bs.Nodup) (hlt : ∀ b ∈ bs, ¬ (nx ≤ b ∧ b < nx + m)) {b : Nat} {B : Block} (h : updH H (wrs bs NS k nx m drop Hout) b = some B) :
    (∃ c B0, c < k + m ∧ mu bs k nx c = b ∧ geth Hout c = some B0 ∧ B = renB (mu bs k nx) B0) ∨ (H b = some B ∧ b ∉ bs ∧ ¬ (nx ≤ b ∧ b < nx + m) ∧ (drop = true → b ∉ NS)) := by
  unfold wrs at h
  rw [updH_app, updH_app] at h
  have gi : ∀ i ∈ List.range k, ∀ j ∈ List.range k, bs.getD i 0 = bs.getD j 0 → i = j := fun i hi j hj e => by
    have hi := List.mem_range.1 hi
    have hj := List.mem_range.1 hj
    have h1 : i < bs.length := by omega
    have h2 : j < bs.length := by omega
    simp only [List.getD, List.getElem?_eq_getElem h1, List.getElem?_eq_getElem h2, Option.getD_some] at e
    exact nodup_inj hn e
  by_cases h1 : nx ≤ b ∧ b < nx + m
  · have := (updH_map (H := updH (updH H (if drop then gone NS else [])) ((List.range k).map fun i => (bs.getD i 0, (geth Hout i).map (renB (mu bs k nx))))) (fun j => nx + j) (fun j => (geth Hout (k + j)).map (renB (mu bs k nx))) (List.range m) (fun i _ j _ e => by omega) List.nodup_range b).1 (b - nx) (List.mem_range.2 (by omega)) (by omega)
    rw [this] at h
    simp only [Option.map_eq_some_iff] at h
    obtain ⟨B0, h2, rfl⟩ := h
    exact .inl ⟨k + (b - nx), B0, by omega, by unfold mu; rw [if_neg (by omega)]; omega, h2, rfl⟩
  · have := (updH_map (H := updH (updH H (if drop then gone NS else [])) ((List.range k).map fun i => (bs.getD i 0, (geth Hout i).map (renB (mu bs k nx))))) (fun j => nx + j) (fun j => (geth Hout (k + j)).map (renB (mu bs k nx))) (List.range m) (fun i _ j _ e => by omega) List.nodup_range b).2 (fun j hj => by have := List.mem_range.1 hj; omega)
    rw [this] at h
    by_cases h2 : b ∈ bs
    · obtain ⟨i, hi, rfl⟩ := List.getElem_of_mem h2
      have := (updH_map (H := updH H (if drop then gone NS else [])) (fun i => bs.getD i 0) (fun i => (geth Hout i).map (renB (mu bs k nx))) (List.range k) gi List.nodup_range bs[i]).1 i (List.mem_range.2 (by omega)) (by simp [List.getD, hi])
      rw [this] at h
      simp only [Option.map_eq_some_iff] at h
      obtain ⟨B0, h3, rfl⟩ := h
      exact .inl ⟨i, B0, by omega, by unfold mu; rw [if_pos (by omega)]; simp [List.getD, hi], h3, rfl⟩
    · have := (updH_map (H := updH H (if drop then gone NS else [])) (fun i => bs.getD i 0) (fun i => (geth Hout i).map (renB (mu bs k nx))) (List.range k) gi List.nodup_range b).2 (fun j hj e => h2 (by
        have hj := List.mem_range.1 hj
        have h1 : j < bs.length := by omega
        rw [← e]; simp [List.getD, h1]))
      rw [this] at h
      right
      cases drop with
      | false => exact ⟨by simpa [updH] using h, h2, h1, by simp⟩
      | true =>
        simp only [if_true, updH_gone] at h
        split at h
        · cases h
        · exact ⟨h, h2, h1, fun _ => by assumption⟩

section
variable {C : Ctx} {o : Oper} {N : Nat} {T : Nat → AV} {H : Nat → Option Block}

theorem run_enter {a : Act} {w : World} {x : Operand} {args : Array Operand} {ats : Array TypeId} (ho : o.op = .call { callee := .value x, args := args, argTypes := ats }) {f : FuncId} {fs cs : Array Value} (hx : a.eval x = .func (.func f) fs cs) (hb : Bodied C.P f) :
    (execOp a.eval o).run C.P w = .ok (.enter f (fs ++ args.map a.eval ++ cs)) w := by
  obtain ⟨fn, h1, h2, h3⟩ := hb
  simp only [execOp, ho, resolve, hx, Deferred.ofValue]
  rw [Sem.run_bind]
  simp only [Sem.run_pure, Result.andThen_ok, invoke, callFunc]
  rw [Sem.run_bind, run_program]
  simp only [Result.andThen_ok, h1, h2]
  have : fn.body.isNone = false := by cases hb : fn.body <;> simp_all
  simp [this]

/-- an operation that enters a function -/
def Enters (C : Ctx) (o : Oper) (N : Nat) (T : Nat → AV) (f : FuncId) (xs : List AV) : Prop := ∀ (T' : Nat → AV), (∀ x ∈ o.op.operands, ev T' x = ev T x) → ∀ E (a : Act) w, TInv N E T' a w → Bodied C.P f →
  ∃ VS : Array Value, (execOp a.eval o).run C.P w = .ok (.enter f VS) w ∧ VS.toList.length = xs.length ∧ ∀ (k : Nat) (y : AV), xs[k]? = some y → RepA w E y (VS.toList.getD k undef)

theorem enters_value {x : Operand} {args : Array Operand} {ats : Array TypeId} (ho : o.op = .call { callee := .value x, args := args, argTypes := ats }) {f : FuncId} {fs cs : List AV} (hfn : fnOf (ev T x) = some (f, fs, cs)) : Enters C o N T f (fs ++ args.toList.map (ev T) ++ cs) := by
  intro T' g1 E a w ht hbod
  have mx : x ∈ o.op.operands := by simp [ho, Op.operands, Call.operands]
  have ma : ∀ y ∈ args, y ∈ o.op.operands := fun y hy => by simp [ho, Op.operands, Call.operands, hy]
  -- the arguments
  obtain ⟨FS, CS, ex, hvl, hvs⟩ : ∃ FS CS : Array Value, a.eval x = .func (.func f) FS CS ∧ (FS ++ args.map a.eval ++ CS).toList.length = (fs ++ args.toList.map (ev T) ++ cs).length ∧
      ∀ (k : Nat) (y : AV), (fs ++ args.toList.map (ev T) ++ cs)[k]? = some y → RepA w E y ((FS ++ args.map a.eval ++ CS).toList.getD k undef) := by
    have rx := rep_at ht (g1 x mx) rfl
    have mid : ∀ (k : Nat) (y : AV), (args.toList.map (ev T))[k]? = some y → RepA w E y ((args.map a.eval).toList.getD k undef) := fun k y hy => by
      simp only [List.getElem?_map, Option.map_eq_some_iff] at hy
      obtain ⟨z, hz, rfl⟩ := hy
      have hz' : args[k]? = some z := by simpa using hz
      have : (args.map a.eval).toList.getD k undef = a.eval z := by simp [List.getD, hz']
      rw [this]
      exact rep_at ht (g1 z (ma z (Array.mem_of_getElem? hz'))) rfl
    have glue : ∀ (FS CS : List Value), FS.length = fs.length → CS.length = cs.length → (∀ (k : Nat) (y : AV), fs[k]? = some y → RepA w E y (FS.getD k undef)) → (∀ (k : Nat) (y : AV), cs[k]? = some y → RepA w E y (CS.getD k undef)) →
        ∀ (k : Nat) (y : AV), (fs ++ args.toList.map (ev T) ++ cs)[k]? = some y → RepA w E y ((FS ++ (args.map a.eval).toList ++ CS).getD k undef) := fun FS CS l1 l2 r1 r2 k y hy => by
      simp only [List.getD]
      rw [List.getElem?_append] at hy
      rw [List.getElem?_append]
      simp only [List.length_append, List.length_map, Array.length_toList, Array.size_map, l1] at hy ⊢
      split at hy
      · rename_i hlt
        rw [if_pos hlt]
        rw [List.getElem?_append] at hy
        rw [List.getElem?_append, l1]
        split at hy
        · rename_i h1; rw [if_pos h1]; exact r1 k y hy
        · rename_i h1; rw [if_neg h1]; exact mid _ y hy
      · rename_i hlt
        rw [if_neg hlt]
        exact r2 _ y hy
    unfold fnOf at hfn
    split at hfn
    · rename_i f' A B hxe
      split at hfn
      · rename_i he
        simp only [Bool.and_eq_true, Array.isEmpty_iff] at he
        obtain ⟨rfl, rfl⟩ := he
        cases hfn
        rw [hxe] at rx
        refine ⟨#[], #[], rep_sc rx, by simp, ?_⟩
        have := glue [] [] rfl rfl (by simp) (by simp)
        simpa using this
      · cases hfn
    · rename_i f' fs' cs' hxe
      cases hfn
      rw [hxe] at rx
      obtain ⟨A, B, hv, hA, hB, hfA, hfB⟩ := rep_fn rx
      refine ⟨A, B, hv, by simp [hA, hB], ?_⟩
      have := glue A.toList B.toList (by simpa using hA) (by simpa using hB) (fun k y hy => by simpa [List.getD, Array.getD_eq_getD_getElem?] using hfA k y hy) (fun k y hy => by simpa [List.getD, Array.getD_eq_getD_getElem?] using hfB k y hy)
      simpa using this
    · cases hfn
  exact ⟨_, run_enter ho ex hbod, hvl, hvs⟩

/-- a method of a type -/
def Meth (C : Ctx) (t : TypeId) (name : String) (f : FuncId) : Prop := ∀ (v : Value) (w : World), (method (C.P.types.size + Made.depth) t v name).run C.P w = .ok (f, v) w
theorem meth_mk {t : TypeId} {name : String} {f : FuncId} {p : Bool} {d : TypeDesc} (hu : C.P.underlying t = some d) (hd : (match d, p with | .pointer _, true => true | .pointer _, false => false | _, p => !p) = true)
    (hi : (C.P.info? t).map (fun i => (i.methods.find? (·.name == name)).map fun m => (m.path.toList, m.func)) = some (some ([], some (f, p)))) : Meth C t name f := fun v w => by
  obtain ⟨i, e1, e2⟩ := Option.map_eq_some_iff.1 hi
  obtain ⟨m, e3, e4⟩ := Option.map_eq_some_iff.1 e2
  injection e4 with e4 e5
  rw [show C.P.types.size + Made.depth = (C.P.types.size + (Made.depth - 1)) + 1 from rfl]
  cases d <;> cases p <;> simp at hd <;> simp [method, typeInfo, e1, e3, e4, e5, follow, receiverAt, run_underlying hu, Place.get]
def ifcOf : AV → Option (TypeId × AV)
  | .ifc t v => some (t, v)
  | .cv (.ifc t c) => some (t, .cv c)
  | _ => none
theorem enters_invoke {x : Operand} {name : String} {args : Array Operand} {ats : Array TypeId} (ho : o.op = .call { callee := .invoke x name, args := args, argTypes := ats }) {t : TypeId} {v : AV} (hx : ifcOf (ev T x) = some (t, v)) {f : FuncId} (hm : Meth C t name f) : Enters C o N T f (v :: args.toList.map (ev T)) := by
  intro T' g1 E a w ht hbod
  have mx : x ∈ o.op.operands := by simp [ho, Op.operands, Call.operands]
  have ma : ∀ y ∈ args, y ∈ o.op.operands := fun y hy => by simp [ho, Op.operands, Call.operands, hy]
  obtain ⟨u, eu, hu⟩ : ∃ u, a.eval x = .iface t u ∧ RepA w E v u := by
    have rx := rep_at ht (g1 x mx) rfl
    unfold ifcOf at hx
    split at hx
    · rename_i e; cases hx; rw [e] at rx; exact rep_ifc rx
    · rename_i e; cases hx; rw [e] at rx
      generalize a.eval x = z at rx
      cases rx with | cv _ _ h => cases h with | ifc _ _ v h => exact ⟨v, rfl, .cv _ _ h⟩
    · cases hx
  refine ⟨#[u] ++ args.map a.eval, ?_, by simp, fun k y hy => ?_⟩
  · obtain ⟨fn, h1, h2, h3⟩ := hbod
    have hbn : fn.body.isNone = false := by cases hb : fn.body <;> simp_all
    rw [show execOp a.eval o = (do let d ← resolve a.eval { callee := .invoke x name, args := args, argTypes := ats } o.type; Go.invoke d.target d.args) by unfold execOp; rw [ho]]
    simp only [resolve, eu]
    rw [Sem.run_bind]
    simp only [Sem.run_pure, Result.andThen_ok, Go.invoke]
    have e0 : (#[Value.iface t u] ++ args.map a.eval)[0]? = some (.iface t u) := by rw [Array.getElem?_append_left Nat.zero_lt_one]; rfl
    have e1 : (#[Value.iface t u] ++ args.map a.eval).extract 1 (#[Value.iface t u] ++ args.map a.eval).size = args.map a.eval := by
      apply Array.ext'; simp [List.take_of_length_le]
    simp only [e0, e1, callMethod]
    rw [Sem.run_bind, run_program]
    simp only [Result.andThen_ok]
    rw [Sem.run_bind, hm u w]
    simp only [Result.andThen_ok, callFunc]
    rw [Sem.run_bind, run_program]
    simp only [Result.andThen_ok, h1, h2]
    simp [hbn]
  · cases k with
    | zero => simp only [List.getElem?_cons_zero, Option.some.injEq] at hy; subst hy; simpa [List.getD] using hu
    | succ k =>
      simp only [List.getElem?_cons_succ, List.getElem?_map, Option.map_eq_some_iff] at hy
      obtain ⟨z, hz, rfl⟩ := hy
      have hz' : args[k]? = some z := by simpa using hz
      have : (#[u] ++ args.map a.eval).toList.getD (k + 1) undef = a.eval z := by simp [List.getD, hz']
      rw [this]
      exact rep_at ht (g1 z (ma z (Array.mem_of_getElem? hz'))) rfl

set_option maxHeartbeats 2000000 in
theorem call_gen {nx : Nat} {K : Eff → Prop} {f : FuncId} {xs : List AV} (hent : Enters C o N T f xs)
    {args' : List AV} {Hin : List Block} {res : AV} {Hout : List (Nat × Option Block)} (S : Spec C f args' Hin res Hout) {bs : List Nat} {m : Nat} {drop : Bool}
    (hnd : decide bs.Nodup = true) {ys : List AV} {ns : List Nat} (hexp : ExpOkL bs H xs ys ns) (hle : LeL (fun i => bs[i]?) args' ys)
    (h : vPass bs H (fun i => bs[i]?) bs Hin fun ms => ck ((ns ++ ms).all (fun b => !bs.contains b) && (nmA (Hin.length + m) res && nmH (Hin.length + m) Hout)) <| (drop = true ∨ NoR res ∧ NoRH Hout) ∧
      K ⟨renA (mu bs Hin.length nx) res, wrs bs (ns ++ ms) Hin.length nx m drop Hout, List.range' nx m, bs ++ (ns ++ ms)⟩) : Does C o N T H nx K := by
  have hnd : bs.Nodup := by simpa using hnd
  obtain ⟨x1, x2, x3⟩ := hexp
  obtain ⟨ms, h, p1, p2, p3, p4⟩ := vPass_out h
  replace h := ck_out h
  obtain ⟨hck, hdr, hk⟩ := h
  simp only [Bool.and_eq_true, List.all_eq_true, Bool.not_eq_true', List.contains_eq_mem, decide_eq_false_iff_not] at hck
  obtain ⟨hNS, hnmA, hnmH⟩ := hck
  refine ⟨_, fun T' H' g1 g2 E a w Kk Q ht hh hf hnext => ?_, by simp, hk⟩
  obtain ⟨VS, hop, hvl, hvs⟩ := hent T' g1 E a w ht S.bod
  have hlive : ∀ b ∈ bs, ∃ B, H' b = some B := fun b hb => by
    obtain ⟨B, hB⟩ := p3 b hb
    exact ⟨B, (g2 b (List.mem_append.2 (.inl hb))).trans hB⟩
  have hliveN : ∀ b ∈ ns ++ ms, ∃ B, H' b = some B := fun b hb => by
    have : ∃ B, H b = some B := (List.mem_append.1 hb).elim (x1 b) (p1 b)
    obtain ⟨B, hB⟩ := this
    exact ⟨B, (g2 b (List.mem_append.2 (.inr hb))).trans hB⟩
  have hbU : ∀ b ∈ bs, E.U b := fun b hb => (hlive b hb).elim fun B hB => (hh.un b B hB).1
  have hnew : ∀ b, (nx ≤ b ∧ b < nx + m) → ¬ E.U b := fun b hb => hf b (by simp only [List.mem_range']; exact ⟨b - nx, by omega, by omega⟩)
  have hbs_new : ∀ b ∈ bs, ¬ (nx ≤ b ∧ b < nx + m) := fun b hb hn => hnew b hn (hbU b hb)
  -- the callee's state
  let σ : Nat → Option Nat := fun i => bs[i]?
  let Ec : Emb := { (E.frz (ns ++ ms)).ren σ with fr := fun r => r < w.heap.size ∧ ∀ b ∈ bs, ¬ E.gh b → r ≠ E.blk b }
  have toEc : ∀ {y : AV} {v : Value}, RepA w ((E.frz (ns ++ ms)).ren σ) y v → RepA w Ec y v := fun hr => RepA.mono (E := (E.frz (ns ++ ms)).ren σ) (E' := Ec) (fun _ _ => rfl) (fun _ h => h) (fun _ h => ⟨h, rfl, rfl, .rfl⟩) hr
  have blkc : ∀ {i b}, bs[i]? = some b → Ec.blk i = E.blk b ∧ Ec.sz i = E.sz b ∧ (Ec.gh i ↔ E.gh b) := fun {i b} hb => by
    refine ⟨by simp [Ec, Emb.ren, σ, hb, Emb.frz], by simp [Ec, Emb.ren, σ, hb, Emb.frz], ⟨fun ⟨y, e, g⟩ => by simp only [σ] at e; rw [hb] at e; cases e; exact g, fun g => ⟨b, hb, g⟩⟩⟩
  have frE : ∀ r, E.fr r → Ec.fr r := fun r hr => ⟨hh.frlt r hr, fun b hb hg e => by
    obtain ⟨B, hB⟩ := hlive b hb
    exact (hh.un b B hB).2 hg (e ▸ hr)⟩
  have prEc : ∀ r, Ec.pr r → Ec.fr r := fun r hr => by
    rcases hr with hr | ⟨c, hc, hg, e⟩
    · exact frE r (hh.prfr r hr)
    · obtain ⟨X, hX⟩ := hliveN c hc
      refine ⟨e ▸ hh.lt hX hg, fun b hb hgb e2 => ?_⟩
      obtain ⟨B, hB⟩ := hlive b hb
      have := hh.inj c b X B hX hB hg hgb (e ▸ e2)
      exact hNS c hc (this ▸ hb)
  have hhc : HInv Ec (hin Hin) w := by
    refine ⟨fun i B hB => ?_, fun i B hB => ?_, fun i j B D hB hD gi gj e => ?_, prEc, fun r hr => hr.1⟩
    · have hi : i < bs.length := by rw [p2]; exact (List.getElem?_eq_some_iff.1 hB).1
      obtain ⟨e1, e2, e3⟩ := blkc (List.getElem?_eq_getElem hi)
      exact p4 H' (fun b hb => g2 b (List.mem_append.2 (.inr (List.mem_append.2 (.inr hb))))) (fun b hb => g2 b (List.mem_append.2 (.inl hb))) E w hh (ns ++ ms) (fun b hb => List.mem_append.2 (.inr hb)) i bs[i] B (List.getElem?_eq_getElem hi) hB i Ec (fun y v => toEc) (fun _ h => h) e1 e2 e3
    · have hi : i < bs.length := by rw [p2]; exact (List.getElem?_eq_some_iff.1 hB).1
      obtain ⟨e1, e2, e3⟩ := blkc (List.getElem?_eq_getElem hi)
      exact ⟨⟨bs[i], List.getElem?_eq_getElem hi, hbU _ (List.getElem_mem hi)⟩, fun hg hfr => hfr.2 bs[i] (List.getElem_mem hi) (fun g => hg (e3.2 g)) e1⟩
    · have hi : i < bs.length := by rw [p2]; exact (List.getElem?_eq_some_iff.1 hB).1
      have hj : j < bs.length := by rw [p2]; exact (List.getElem?_eq_some_iff.1 hD).1
      obtain ⟨e1, e2, e3⟩ := blkc (List.getElem?_eq_getElem hi)
      obtain ⟨f1, f2, f3⟩ := blkc (List.getElem?_eq_getElem hj)
      obtain ⟨X, hX⟩ := hlive bs[i] (List.getElem_mem hi)
      obtain ⟨Y, hY⟩ := hlive bs[j] (List.getElem_mem hj)
      have := hh.inj _ _ X Y hX hY (fun g => gi (e3.2 g)) (fun g => gj (f3.2 g)) (by rw [← e1, ← f1]; exact e)
      exact nodup_inj hnd this
  have hUc : ∀ b, Ec.U b ↔ b < Hin.length := fun b => by
    constructor
    · rintro ⟨y, e, _⟩; rw [← p2]; exact (List.getElem?_eq_some_iff.1 e).1
    · intro hb
      have hi : b < bs.length := by omega
      exact ⟨bs[b], List.getElem?_eq_getElem hi, hbU _ (List.getElem_mem hi)⟩
  obtain ⟨le1, le2⟩ := LeL.rep hle (w := w) (E := E.frz (ns ++ ms))
  have hrun := S.run Ec w VS.toList (by rw [hvl, ← x2, ← le1]) (fun k y hy => by
    obtain ⟨z, hz, hzr⟩ := le2 k y hy
    obtain ⟨q, hq, hqr⟩ := x3 H' (fun b hb => g2 b (List.mem_append.2 (.inr (List.mem_append.2 (.inl hb))))) E w hh k z hz
    exact toEc (hzr _ ((hqr _ (hvs k q hq)).frz_mono fun b hb => List.mem_append.2 (.inl hb)))) hhc hUc
  unfold Oper.wp
  rw [hop]
  simp only [Oper.upon]
  rw [Array.toArray_toList] at hrun
  refine hrun.mono fun e w' ⟨v, E1, he, hr, hh1, hx⟩ => ?_
  subst he
  simp only
  -- the caller's state behind the call
  let isN : Nat → Prop := fun b => nx ≤ b ∧ b < nx + m
  let μ := mu bs Hin.length nx
  classical
  let E' : Emb := { blk := fun b => if isN b then E1.blk (b - nx + Hin.length) else E.blk b, sz := fun b => if isN b then E1.sz (b - nx + Hin.length) else E.sz b, U := fun b => E.U b ∨ isN b, gh := fun b => if isN b then (E1.gh (b - nx + Hin.length) ∨ ¬ E1.U (b - nx + Hin.length)) else E.gh b, pr := fun r => E.pr r ∨ (drop = true ∧ E1.pr r), fr := fun r => E.fr r ∨ (drop = true ∧ E1.pr r) }
  have oldn : ∀ b, E.U b → E'.U b ∧ E'.blk b = E.blk b ∧ E'.sz b = E.sz b ∧ (E'.gh b ↔ E.gh b) := fun b hb => by
    have : ¬ isN b := fun h => hnew b h hb
    exact ⟨.inl hb, by simp [E', this], by simp [E', this], by simp [E', this]⟩
  have newn : ∀ c, Hin.length ≤ c → c < Hin.length + m → E1.U c → E'.U (μ c) ∧ E'.blk (μ c) = E1.blk c ∧ E'.sz (μ c) = E1.sz c ∧ (E'.gh (μ c) ↔ E1.gh c) := fun c h1 h2 hU => by
    have e : μ c = nx + (c - Hin.length) := by simp only [μ, mu]; rw [if_neg (by omega)]
    have hn : isN (nx + (c - Hin.length)) := ⟨by omega, by omega⟩
    rw [e]
    have e2 : nx + (c - Hin.length) - nx + Hin.length = c := by omega
    exact ⟨.inr hn, by simp only [E', hn, if_true, e2], by simp only [E', hn, if_true, e2], by simp only [E', hn, if_true, e2, hU, not_true_eq_false, or_false]⟩
  have pas : ∀ c, c < Hin.length → ∃ b, bs[c]? = some b ∧ μ c = b ∧ b ∈ bs ∧ E1.blk c = E.blk b ∧ E1.sz c = E.sz b ∧ (E1.gh c ↔ E.gh b) := fun c hc => by
    have hi : c < bs.length := by omega
    obtain ⟨e1, e2, e3⟩ := blkc (List.getElem?_eq_getElem hi)
    obtain ⟨f1, f2, f3⟩ := hx.nm c hc
    exact ⟨bs[c], List.getElem?_eq_getElem hi, by simp only [μ, mu]; rw [if_pos hc]; simp [List.getD, hi], List.getElem_mem hi, f1.trans e1, f2.trans e2, f3.trans e3⟩
  have turn : Turn w' (Hin.length + m) μ E1 E' := ⟨fun c hc hU => by
    by_cases h1 : c < Hin.length
    · obtain ⟨b, hb, e, hbm, e1, e2, e3⟩ := pas c h1
      obtain ⟨o1, o2, o3, o4⟩ := oldn b (hbU b hbm)
      rw [e]
      exact ⟨o1, o2.trans e1.symm, o3.trans e2.symm, o4.trans e3.symm⟩
    · exact newn c (by omega) hc hU⟩
  have hprd : ∀ {Z : Prop}, (drop = true ∨ Z) → (∀ r, E1.pr r → E'.pr r) ∨ Z := fun h => h.imp (fun hd r hr => .inr ⟨hd, hr⟩) id
  have live : ∀ b B, updH H' (wrs bs (ns ++ ms) Hin.length nx m drop Hout) b = some B → (∃ c B0, c < Hin.length + m ∧ μ c = b ∧ geth Hout c = some B0 ∧ B = renB μ B0) ∨ (H' b = some B ∧ b ∉ bs ∧ ¬ isN b ∧ (drop = true → b ∉ ns ++ ms)) :=
    fun b B hB => wrs_out p2 hnd hbs_new hB
  -- a block that was not handed over stays
  have apart : ∀ b B, H' b = some B → ¬ E.gh b → b ∉ bs → Ec.fr (E.blk b) := fun b B hB hg hb => ⟨hh.lt hB hg, fun c hc hgc e => by
    obtain ⟨D, hD⟩ := hlive c hc
    exact hb (hh.inj b c B D hB hD hg hgc e ▸ hc)⟩
  have E1blk : ∀ c, E1.U c → ¬ E1.gh c → ∀ b B, H' b = some B → ¬ E.gh b → b ∉ bs → E1.blk c ≠ E.blk b := fun c hU hg b B hB hgb hb e => by
    rcases hx.un c hU hg with h1 | ⟨d, h1, h2, h3⟩
    · have := hh.lt hB hgb; omega
    · obtain ⟨y, hy, _⟩ := h1
      obtain ⟨e1, _, e3⟩ := blkc hy
      have hym : y ∈ bs := List.mem_of_getElem? hy
      obtain ⟨D, hD⟩ := hlive y hym
      have := hh.inj b y B D hB hD hgb (fun g => h2 (e3.2 g)) (by rw [← e, h3, e1])
      exact hb (this ▸ hym)
  have hH : HInv E' (updH H' (wrs bs (ns ++ ms) Hin.length nx m drop Hout)) w' := by
    refine ⟨fun b B hB => ?_, fun b B hB => ?_, fun b d B D hB hD gb gd e => ?_, fun r hr => ?_, fun r hr => ?_⟩
    · rcases live b B hB with ⟨c, B0, hc, rfl, hB0, rfl⟩ | ⟨hB', hb, hn, _⟩
      · exact renB_rep turn hc (hh1.un c B0 hB0).1 (nmH_out hnmH hB0).2 (hprd (hdr.imp id fun h => NoRH.out h.2 hB0)) (hh1.hp c B0 hB0)
      · exact (hh.hp b B hB').mono (E' := E') (fun r hr => hx.keep r (frE r (hh.prfr r hr))) (fun _ h => .inl h) oldn (hh.un b B hB').1 (fun hg => hx.keep _ (apart b B hB' hg hb))
    · rcases live b B hB with ⟨c, B0, hc, rfl, hB0, rfl⟩ | ⟨hB', hb, hn, hd⟩
      · obtain ⟨u, f⟩ := hh1.un c B0 hB0
        obtain ⟨t1, t2, t3, t4⟩ := turn.nm c hc u
        refine ⟨t1, fun hg hfr => ?_⟩
        rw [t2] at hfr
        have := f fun g => hg (t4.2 g)
        rcases hfr with hfr | ⟨_, hfr⟩
        · exact this (hx.fr _ (frE _ hfr))
        · exact this (hh1.prfr _ hfr)
      · obtain ⟨u, f⟩ := hh.un b B hB'
        obtain ⟨t1, t2, t3, t4⟩ := oldn b u
        refine ⟨t1, fun hg hfr => ?_⟩
        rw [t2] at hfr
        have hg' : ¬ E.gh b := fun g => hg (t4.2 g)
        rcases hfr with hfr | ⟨hdt, hfr⟩
        · exact f hg' hfr
        · rcases hx.pn _ hfr with (h1 | ⟨c, hc, hgc, e⟩) | h1 | ⟨c, ⟨y, hy, _⟩, hgc, e⟩
          · exact f hg' (hh.prfr _ h1)
          · obtain ⟨X, hX⟩ := hliveN c hc
            exact hd hdt (hh.inj b c B X hB' hX hg' hgc e ▸ hc)
          · have := hh.lt hB' hg'; omega
          · obtain ⟨e1, _, e3⟩ := blkc hy
            have hym : y ∈ bs := List.mem_of_getElem? hy
            obtain ⟨D, hD⟩ := hlive y hym
            exact hb (hh.inj b y B D hB' hD hg' (fun g => hgc (e3.2 g)) (by rw [e, e1]) ▸ hym)
    · rcases live b B hB with ⟨c, B0, hc, rfl, hB0, rfl⟩ | ⟨hB', hb, hn, hdb⟩ <;> rcases live d D hD with ⟨c', D0, hc', rfl, hD0, rfl⟩ | ⟨hD', hd, hn', hdd⟩
      · obtain ⟨t1, t2, t3, t4⟩ := turn.nm c hc (hh1.un c B0 hB0).1
        obtain ⟨s1, s2, s3, s4⟩ := turn.nm c' hc' (hh1.un c' D0 hD0).1
        rw [hh1.inj c c' B0 D0 hB0 hD0 (fun g => gb (t4.2 g)) (fun g => gd (s4.2 g)) (by rw [← t2, ← s2]; exact e)]
      · obtain ⟨t1, t2, t3, t4⟩ := turn.nm c hc (hh1.un c B0 hB0).1
        obtain ⟨s1, s2, s3, s4⟩ := oldn d (hh.un d D hD').1
        exact absurd (by rw [← t2, ← s2]; exact e) (E1blk c (hh1.un c B0 hB0).1 (fun g => gb (t4.2 g)) d D hD' (fun g => gd (s4.2 g)) hd)
      · obtain ⟨t1, t2, t3, t4⟩ := turn.nm c' hc' (hh1.un c' D0 hD0).1
        obtain ⟨s1, s2, s3, s4⟩ := oldn b (hh.un b B hB').1
        exact absurd (by rw [← t2, ← s2]; exact e.symm) (E1blk c' (hh1.un c' D0 hD0).1 (fun g => gd (t4.2 g)) b B hB' (fun g => gb (s4.2 g)) hb)
      · obtain ⟨s1, s2, s3, s4⟩ := oldn b (hh.un b B hB').1
        obtain ⟨t1, t2, t3, t4⟩ := oldn d (hh.un d D hD').1
        exact hh.inj b d B D hB' hD' (fun g => gb (s4.2 g)) (fun g => gd (t4.2 g)) (by rw [← s2, ← t2]; exact e)
    · exact hr.imp (hh.prfr r) id
    · rcases hr with hr | ⟨_, hr⟩
      · exact Nat.lt_of_lt_of_le (hh.frlt r hr) hx.sz
      · exact hh1.frlt r (hh1.prfr r hr)
  refine hnext v E' w' (renA_rep turn hnmA (hprd (hdr.imp id fun h => h.1)) hr) hH ⟨fun r hr => hx.keep r (frE r hr), fun _ h => .inl h, fun _ h => .inl h, hx.sz, fun b hb => (oldn b hb).2, fun b hb hg => ?_, fun r hr => ?_, hx.io⟩ (fun b => ?_)
  · by_cases hn : isN b
    · simp only [E', hn, if_true] at hg ⊢
      have hU1 : E1.U (b - nx + Hin.length) := Classical.byContradiction fun h => hg (.inr h)
      rcases hx.un _ hU1 (fun g => hg (.inl g)) with h1 | ⟨d, ⟨y, hy, _⟩, h2, h3⟩
      · exact .inl h1
      · obtain ⟨e1, _, e3⟩ := blkc hy
        exact .inr ⟨y, hbU y (List.mem_of_getElem? hy), fun g => h2 (e3.2 g), h3.trans e1⟩
    · simp only [E', hn, if_false] at hg ⊢
      exact .inr ⟨b, hb.resolve_right hn, hg, rfl⟩
  · rcases hr with hr | ⟨_, hr⟩
    · exact .inl hr
    · rcases hx.pn r hr with (h1 | ⟨c, hc, hgc, e⟩) | h1 | ⟨c, ⟨y, hy, _⟩, hgc, e⟩
      · exact .inl h1
      · obtain ⟨X, hX⟩ := hliveN c hc
        exact .inr (.inr ⟨c, (hh.un c X hX).1, hgc, e⟩)
      · exact .inr (.inl h1)
      · obtain ⟨e1, _, e3⟩ := blkc hy
        exact .inr (.inr ⟨y, hbU y (List.mem_of_getElem? hy), fun g => hgc (e3.2 g), e.trans e1⟩)
  · simp only [E', isN, List.mem_range']
    constructor
    · rintro (h | h)
      · exact .inl h
      · exact .inr ⟨b - nx, by omega, by omega⟩
    · rintro (h | ⟨i, h1, h2⟩)
      · exact .inl h
      · exact .inr (by omega)

/-- a call whose arguments are told as they are handed over: the contract is still to be named -/
@[irreducible] def CallW (C : Ctx) (f : FuncId) (bs : List Nat) (ys : List AV) (ns : List Nat) (H : Nat → Option Block) (nx : Nat) (K : Eff → Prop) : Prop :=
  ∃ (args' : List AV) (Hin : List Block) (res : AV) (Hout : List (Nat × Option Block)) (m : Nat) (drop : Bool), Spec C f args' Hin res Hout ∧ LeL (fun i => bs[i]?) args' ys ∧ vPass bs H (fun i => bs[i]?) bs Hin fun ms =>
    ck ((ns ++ ms).all (fun b => !bs.contains b) && (nmA (Hin.length + m) res && nmH (Hin.length + m) Hout)) <| (drop = true ∨ NoR res ∧ NoRH Hout) ∧
    K ⟨renA (mu bs Hin.length nx) res, wrs bs (ns ++ ms) Hin.length nx m drop Hout, List.range' nx m, bs ++ (ns ++ ms)⟩
theorem call_go {nx : Nat} {K : Eff → Prop} {x : Operand} {args : Array Operand} {ats : Array TypeId} (ho : o.op = .call { callee := .value x, args := args, argTypes := ats }) {f : FuncId} {fs cs : List AV} (hfn : fnOf (ev T x) = some (f, fs, cs)) (bs : List Nat)
    (h : ck (decide bs.Nodup) <| vExpL bs H (fs ++ args.toList.map (ev T) ++ cs) fun ys ns => CallW C f bs ys ns H nx K) : CallVC C o N T H nx K := by
  unfold CallVC
  -- the contract is the one that was named
  obtain ⟨hnd, h⟩ := ck_out h
  obtain ⟨ys, ns, h, h2, h3⟩ := vExpL_out h
  unfold CallW at h
  obtain ⟨args', Hin, res, Hout, m, drop, S, hle, h⟩ := h
  exact call_gen (enters_value ho hfn) S hnd h3 hle h
/-- a method's call -/
theorem call_inv {nx : Nat} {K : Eff → Prop} {x : Operand} {name : String} {args : Array Operand} {ats : Array TypeId} (ho : o.op = .call { callee := .invoke x name, args := args, argTypes := ats }) {t : TypeId} {v : AV} (hx : ifcOf (ev T x) = some (t, v)) {f : FuncId} (hm : Meth C t name f) (bs : List Nat)
    (h : ck (decide bs.Nodup) <| vExpL bs H (v :: args.toList.map (ev T)) fun ys ns => CallW C f bs ys ns H nx K) : CallVC C o N T H nx K := by
  unfold CallVC
  obtain ⟨hnd, h⟩ := ck_out h
  obtain ⟨ys, ns, h, h2, h3⟩ := vExpL_out h
  unfold CallW at h
  obtain ⟨args', Hin, res, Hout, m, drop, S, hle, h⟩ := h
  exact call_gen (enters_invoke ho hx hm) S hnd h3 hle h
theorem callW {f : FuncId} {bs : List Nat} {ys : List AV} {ns : List Nat} {nx : Nat} {K : Eff → Prop} {args' : List AV} {Hin : List Block} {res : AV} {Hout : List (Nat × Option Block)} (S : Spec C f args' Hin res Hout) (m : Nat) (drop : Bool) (hle : LeL (fun i => bs[i]?) args' ys)
    (h : vPass bs H (fun i => bs[i]?) bs Hin fun ms => ck ((ns ++ ms).all (fun b => !bs.contains b) && (nmA (Hin.length + m) res && nmH (Hin.length + m) Hout)) <| (drop = true ∨ NoR res ∧ NoRH Hout) ∧
      K ⟨renA (mu bs Hin.length nx) res, wrs bs (ns ++ ms) Hin.length nx m drop Hout, List.range' nx m, bs ++ (ns ++ ms)⟩) : CallW C f bs ys ns H nx K := by
  unfold CallW; exact ⟨args', Hin, res, Hout, m, drop, S, hle, h⟩
theorem LeC.self : ∀ c, LeC c c
  | .sc _ => rfl
  | .ro .. => ⟨rfl, rfl, .inr rfl⟩
  | .rp _ => rfl
  | .ifc .. => rfl
mutual
theorem LeA.self {ρ : Nat → Option Nat} : ∀ {x : AV}, nmA 0 x = true → LeA ρ x x
  | .any, _ => by simp [LeA]
  | .cv c, _ => by simp only [LeA]; exact LeC.self c
  | .ptr .., h => by simp [nmA] at h
  | .own .., h => by simp [nmA] at h
  | .agg cs, h => by simp only [LeA]; exact LeL.self h
  | .tup cs, h => by simp only [LeA]; exact LeL.self h
  | .ifc t v, h => by simp only [LeA]; exact ⟨trivial, LeA.self h⟩
  | .fn f fs cs, h => by simp only [nmA, Bool.and_eq_true] at h; simp only [LeA]; exact ⟨trivial, LeL.self h.1, LeL.self h.2⟩
theorem LeL.self {ρ : Nat → Option Nat} : ∀ {l : List AV}, nmL 0 l = true → LeL ρ l l
  | [], _ => by simp [LeL]
  | x :: l, h => by simp only [nmL, Bool.and_eq_true] at h; simp only [LeL]; exact ⟨LeA.self h.1, LeL.self h.2⟩
end
/-- the plainest call: closed arguments, no block comes or goes -/
theorem callW0 {f : FuncId} {ys : List AV} {ns : List Nat} {nx : Nat} {K : Eff → Prop} {res : AV} (S : Spec C f ys [] res []) (hc : nmL 0 ys = true) (hn : NoR res)
    (h : ck (nmA 0 res) <| K ⟨renA (mu [] 0 nx) res, [], [], ns⟩) : CallW C f [] ys ns H nx K := by
  obtain ⟨h1, h2⟩ := ck_out h
  refine callW S 0 false (LeL.self hc) ?_
  simp only [vPass]
  refine ck_in ⟨by simp [h1, nmH], .inr ⟨hn, trivial⟩, ?_⟩
  simpa [wrs] using h2
/-- less is told of the arguments than is there -/
theorem callWl {f : FuncId} {ys : List AV} {ns : List Nat} {nx : Nat} {K : Eff → Prop} {args' : List AV} {res : AV} (S : Spec C f args' [] res []) (hn : NoR res) (hle : LeL (fun i => ([] : List Nat)[i]?) args' ys)
    (h : ck (nmA 0 res) <| K ⟨renA (mu [] 0 nx) res, [], [], ns⟩) : CallW C f [] ys ns H nx K := by
  obtain ⟨h1, h2⟩ := ck_out h
  refine callW S 0 false hle ?_
  simp only [vPass]
  refine ck_in ⟨by simp [h1, nmH], .inr ⟨hn, trivial⟩, ?_⟩
  simpa [wrs] using h2
/-- blocks are handed over, none comes -/
theorem callWp {bs : List Nat} {f : FuncId} {ys : List AV} {ns : List Nat} {nx : Nat} {K : Eff → Prop} {args' : List AV} {Hin : List Block} {res : AV} {Hout : List (Nat × Option Block)} (S : Spec C f args' Hin res Hout) (hle : LeL (fun i => bs[i]?) args' ys)
    (h : vPass bs H (fun i => bs[i]?) bs Hin fun ms => ck ((ns ++ ms).all (fun b => !bs.contains b) && (nmA (Hin.length + 0) res && nmH (Hin.length + 0) Hout)) <| K ⟨renA (mu bs Hin.length nx) res, wrs bs (ns ++ ms) Hin.length nx 0 true Hout, [], bs ++ (ns ++ ms)⟩) : CallW C f bs ys ns H nx K := by
  refine callW S 0 true hle ?_
  simpa using h
/-- arguments without names; m blocks come, and what was handed over is gone -/
theorem callWm {f : FuncId} {ys : List AV} {ns : List Nat} {nx : Nat} {K : Eff → Prop} {res : AV} {Hout : List (Nat × Option Block)} (S : Spec C f ys [] res Hout) (m : Nat) (hc : nmL 0 ys = true)
    (h : ck (nmA m res && nmH m Hout) <| K ⟨renA (mu [] 0 nx) res, wrs [] ns 0 nx m true Hout, List.range' nx m, ns⟩) : CallW C f [] ys ns H nx K := by
  obtain ⟨h1, h2⟩ := ck_out h
  refine callW S m true (LeL.self hc) ?_
  simp only [vPass, List.length_nil, Nat.zero_add, List.append_nil, List.nil_append]
  refine ck_in ⟨by simpa using h1, .inl trivial, ?_⟩
  simpa using h2
end
end Go.Proofs.Ytnffoddeppimkaa.AW
