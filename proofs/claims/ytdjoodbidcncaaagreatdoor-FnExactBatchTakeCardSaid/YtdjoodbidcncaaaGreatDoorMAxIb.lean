/- slices.Backward of numbers: what it yields. -/
import Derived.Test.YtdjoodbidcncaaaGreatDoorMAxT
import Derived.Test.YtdjoodbidcncaaaGreatDoorMAxPc
set_option linter.unusedVariables false
set_option linter.unusedSimpArgs false
namespace Go.Proofs.YtdjoodbidcncaaaGreatDoor.AW
open Go Go.Conc
set_option maxRecDepth 10000
theorem eval_tmp (a : Act) (t : Nat) : a.eval (.tmp t) = a.tmps.getD t undef := rfl
theorem put_getD {a : Act} {d t : Nat} {u : Value} (h : d < a.tmps.size) : (a.put (some d) u).tmps.getD t undef = if t = d then u else a.tmps.getD t undef := by
  by_cases e : t = d
  · subst e; simp [Act.put, Array.getD_eq_getD_getElem?, h]
  · simp [Act.put, Array.getD_eq_getD_getElem?, Array.getElem?_setIfInBounds_ne (Ne.symm e), e]
theorem put_size (a : Act) (d : Option Nat) (u : Value) : (a.put d u).tmps.size = a.tmps.size := by cases d <;> simp [Act.put]
section
variable {P : Program} {fn : FuncId} {ops : Array Oper} {i : Nat} {rest : List Nat} {o : Oper} {a : Act} {w : World} {S : Sh} {Q : Exit → Act → World → Sh → Prop}
/-- an operation of which all is known -/
theorem opsE_ex (d : Nat) (u : Value) (ho : ops[i]? = some o) (hw : Region.wanted o (yielded ops a.tmps) = true) (hd : o.dst = some d) (h : ∀ w₁ : World, w₁.heap = w.heap → (execOp a.eval o).run P w₁ = .ok (.value u) w₁ ∧ ∀ e ∈ (execOp a.eval o).events P w₁ #[], EvL S w₁.heap.size e)
    (next : opsE P fn ops rest Q (a.put (some d) u) w S) : opsE P fn ops (i :: rest) Q a w S := by
  rw [← hd] at next
  refine opsE_value ho hw fun w₁ h₁ => ?_
  obtain ⟨q, rfl⟩ := h₁
  obtain ⟨h1, h2⟩ := h (w.at q) rfl
  exact ⟨u, w.at q, .inl h1, Nat.le_refl _, fun e he => h2 e (seen_sub e he), opsE_rely next ⟨q, rfl⟩⟩
theorem opsE_yield' (d : Nat) {l : Nat} {vs : Array Value} {R : World → Sh → Prop} (ho : ops[i]? = some o) (hw : Region.wanted o (yielded ops a.tmps) = true) (hd : o.dst = some d)
    (hrun : ∀ w₁, AtRel w w₁ → (execOp a.eval o).run P w₁ = (Instr.yield l vs).run P w₁ ∧ (execOp a.eval o).events P w₁ #[] = (Instr.yield l vs).events P w₁ #[]) (hy : YieldE P l vs w S R) (hnext : ∀ w' S', R w' S' → opsE P fn ops rest Q (a.put (some d) (.bool true)) w' S') : opsE P fn ops (i :: rest) Q a w S :=
  opsE_yield ho hw hrun hy fun w' S' q => by rw [hd]; exact hnext w' S' q
theorem put_defers (a : Act) (d : Option Nat) (u : Value) : (a.put d u).defers = a.defers := by cases d <;> rfl
theorem ex_quiet {u : Value} (h : ∀ w₁ : World, (execOp a.eval o).run P w₁ = .ok (.value u) w₁ ∧ (execOp a.eval o).events P w₁ #[] = #[]) : ∀ w₁ : World, w₁.heap = w.heap → (execOp a.eval o).run P w₁ = .ok (.value u) w₁ ∧ ∀ e ∈ (execOp a.eval o).events P w₁ #[], EvL S w₁.heap.size e :=
  fun w₁ _ => ⟨(h w₁).1, fun e he => by rw [(h w₁).2] at he; simp at he⟩
theorem ex_load {t : TypeId} {x : Operand} {p : Addr} {u : Value} {S₀ : Nat → Prop} (ho : o.op = .load t x) (hs : ∀ w : World, (sizeOf t).run P w = .ok 1 w) (ha : ∀ w : World, (isAgg t).run P w = .ok false w) (hx : a.eval x = .pointer (some p)) (hp : p.spot = none) (hc : cellAt w p.block p.off = some u) (hS : S = shunOf S₀) (hn : ¬ S₀ p.block) (hlt : p.block < w.heap.size) :
    ∀ w₁ : World, w₁.heap = w.heap → (execOp a.eval o).run P w₁ = .ok (.value u) w₁ ∧ ∀ e ∈ (execOp a.eval o).events P w₁ #[], EvL S w₁.heap.size e := fun w₁ hw => by
  have hc' : w₁.cell? p = some u := by
    obtain ⟨b, off, s⟩ := p
    simp only at hp; subst hp
    rw [← hc]; simp [cellAt, World.cell?, hw]
  have hr : (loadVar t p).run P w₁ = .ok u w₁ := by
    simp only [loadVar, Sem.run_bind, ha, Result.andThen_ok]; simp [hc']
  have hev : (loadVar t p).events P w₁ #[] = #[⟨.cell p, false, false⟩] := by
    simp only [loadVar, Sem.events_bind, ha, events_isAgg, Result.evThen_ok]
    simp [events_load, hc']
  refine ⟨?_, fun e he => ?_⟩
  · simp only [execOp, ho, hx, Instr.loadAt, Instr.sureAddr]
    rw [Sem.run_bind, Sem.run_bind]; simp [hr]
  · simp only [execOp, ho, hx, Instr.loadAt, Instr.sureAddr] at he
    simp only [Sem.events_bind, Sem.events_pure, Sem.run_pure, Result.evThen_ok] at he
    rw [evThen_last, hev] at he
    simp only [List.mem_toArray, List.mem_singleton] at he
    subst he
    obtain ⟨b, off, s⟩ := p
    simp only at hp; subst hp
    rw [hS]
    refine evL_cell _ _ ?_ (by rw [hw]; exact hlt)
    rintro ⟨ad, ha, hs⟩
    cases ha
    exact hn hs
theorem ex_index {t e : TypeId} {x ix : Operand} {ad : Addr} {n c j : Nat} (ho : o.op = .indexAddr t x ix) (hu : P.underlying t = some (.slice e)) (hs : ∀ w : World, (sizeOf e).run P w = .ok 1 w) (hx : a.eval x = .slice (some ad) n c) (hix : a.eval ix = .int .i64 (j : Int)) (hj : j < n) :
    ∀ w₁ : World, (execOp a.eval o).run P w₁ = .ok (.value (.pointer (some (ad.add j)))) w₁ ∧ (execOp a.eval o).events P w₁ #[] = #[] := fun w₁ => by
  have h1 : (0 : Int) ≤ (j : Int) ∧ (j : Int) < (n : Int) := by omega
  constructor
  · simp only [execOp, ho, Instr.indexAt, hx, hix, asIntOf, Sem.run_bind, Sem.run_pure, Result.andThen_ok, run_underlying hu]
    simp [h1, hs, hj]
  · simp only [execOp, ho, Instr.indexAt, hx, hix, asIntOf, Sem.events_bind, Sem.events_pure, Sem.run_bind, Sem.run_pure, Result.andThen_ok, Result.evThen_ok, run_underlying hu, events_underlying]
    simp [h1, hs, hj, events_sizeOf, Sem.events_bind]
theorem ex_move {x : Operand} {u : Value} (ho : o.op = .move x) (hx : a.eval x = u) : ∀ w₁ : World, (execOp a.eval o).run P w₁ = .ok (.value u) w₁ ∧ (execOp a.eval o).events P w₁ #[] = #[] := fun w₁ => by
  simp [execOp, ho, hx]
theorem ex_assign {x : Operand} {u : Value} (ho : o.op = .assign x) (hx : a.eval x = u) : ∀ w₁ : World, (execOp a.eval o).run P w₁ = .ok (.value u) w₁ ∧ (execOp a.eval o).events P w₁ #[] = #[] := fun w₁ => by
  simp [execOp, ho, hx]
theorem ex_len {t e : TypeId} {x : Operand} {ats : Array TypeId} {ad : Option Addr} {n c : Nat} (ho : o.op = .call { callee := .builtin .len, args := #[x], argTypes := ats }) (hat : ats[0]? = some t) (hu : P.underlying t = some (.slice e)) (hx : a.eval x = .slice ad n c) :
    ∀ w₁ : World, (execOp a.eval o).run P w₁ = .ok (.value (.int .i64 n)) w₁ ∧ (execOp a.eval o).events P w₁ #[] = #[] := fun w₁ => by
  constructor
  · simp only [execOp, ho, resolve]
    rw [Sem.run_bind]
    simp [builtin, invoke, Builtin.len_, hat, hx, run_underlying hu, goInt, Sem.run_bind]
  · simp only [execOp, ho, resolve]
    rw [Sem.events_bind]
    simp [builtin, invoke, Builtin.len_, hat, hx, run_underlying hu, goInt, Sem.events_bind, Sem.run_bind, events_underlying]
theorem ex_int {op : BinOp} {t ty : TypeId} {x y : Operand} {i j : Int} {v : Value} (ho : o.op = .binOp op t x y ty) (hx : a.eval x = .int .i64 i) (hy : a.eval y = .int .i64 j) (g : ∀ w, (binOp op t (.int .i64 i) (.int .i64 j)).run P w = .ok v w) :
    ∀ w₁ : World, (execOp a.eval o).run P w₁ = .ok (.value v) w₁ ∧ (execOp a.eval o).events P w₁ #[] = #[] := fun w₁ => by
  have hg : (eqGuard op t x y (.int .i64 i) (.int .i64 j)).run P w₁ = .ok () w₁ := by unfold eqGuard; cases op <;> rfl
  constructor
  · simp only [execOp, ho, hx, hy]
    rw [Sem.run_bind, Sem.run_bind, hg]
    simp only [Result.andThen_ok]
    rw [g]; rfl
  · simp only [execOp, ho, hx, hy, Sem.events_bind, Sem.run_bind, hg, guard_int_ev, Result.evThen_ok, Result.andThen_ok, g, int_ev, Sem.events_pure]
theorem ex_yield {l : Nat} {x y z : Operand} {ats : Array TypeId} {u v : Value} (ho : o.op = .call { callee := .value x, args := #[y, z], argTypes := ats }) (hx : a.eval x = .func (.yield l) #[] #[]) (hy : a.eval y = u) (hz : a.eval z = v) (w₁ : World) :
    (execOp a.eval o).run P w₁ = (Instr.yield l #[u, v]).run P w₁ ∧ (execOp a.eval o).events P w₁ #[] = (Instr.yield l #[u, v]).events P w₁ #[] := by
  simp [execOp, ho, resolve, hx, hy, hz, Deferred.ofValue, invoke, Sem.run_bind, Sem.events_bind]
theorem ex_not {t : TypeId} {x : Operand} {q : Bool} (ho : o.op = .unOp .not t x) (hx : a.eval x = .bool q) : ∀ w₁ : World, (execOp a.eval o).run P w₁ = .ok (.value (.bool !q)) w₁ ∧ (execOp a.eval o).events P w₁ #[] = #[] := fun w₁ => by
  constructor
  · simp only [execOp, ho, hx, Op.unary]; rfl
  · simp [execOp, ho, hx, Op.unary]
end
/-- what is yielded -/
def bwd (xs : List Int) : List (List AV) := (List.range xs.length).map fun i : Nat => [iv .i64 ((xs.length : Int) - 1 - i), iv .i64 (xs.getD (xs.length - 1 - i) 0)]
theorem bwd_len (xs : List Int) : (bwd xs).length = xs.length := by simp [bwd]
theorem bwd_at {xs : List Int} {i : Nat} (h : i < (bwd xs).length) : (bwd xs)[i] = [iv .i64 ((xs.length : Int) - 1 - i), iv .i64 (xs.getD (xs.length - 1 - i) 0)] := by simp [bwd]
theorem backward_it (xs : List Int) (hl : xs.length ≤ 1100000) : IterE Tryz.prog gl 230 [.cv (.rp [.ro 1 (rows ci xs) none])] (bwd xs) := by
  refine ⟨fun l cv pr w0 S0 J hcs hcv hrel hpr hgrow hy h0 => ?_⟩
  -- what is read
  have h1 := hcv 0 _ rfl
  obtain ⟨p, vs, e1, hps, hpp, hpc, hpr1⟩ := rep_rp h1
  obtain ⟨ad, n, c, us, e2, hn, hc, hcap, hst, hcell, hrep⟩ := rep_ro (RepA.cv (E := E0 pr) _ _ (hpr1 0 _ rfl))
  have hn : n = xs.length := by rw [hn, rows_len]
  subst hn
  have cellp : cellAt w0 p.block p.off = some (.slice ad xs.length c) := by
    have := hpc 0 _ rfl
    rw [e2] at this
    simpa using this
  have elem : ∀ j, j < xs.length → ∃ a0, ad = some a0 ∧ a0.spot = none ∧ pr a0.block ∧ cellAt w0 a0.block (a0.off + j) = some (.int .i64 (xs.getD j 0)) := fun j hj => by
    obtain ⟨a0, q1, q2, q3, q4⟩ := hcell j (ci xs[j]) (rows_get hj)
    have q5 := q4 0 _ rfl
    have q6 := hrep j (ci xs[j]) 0 _ (rows_get hj) rfl
    have q6 : us j 0 = .int .i64 xs[j] := rep_sc (RepA.cv (E := E0 pr) _ _ q6)
    refine ⟨a0, q1, q2, q3, ?_⟩
    rw [q6] at q5
    simpa [List.getD, hj] using q5
  have hargs : (#[.func (.yield l) #[] #[]] ++ cv : Array Value) = #[.func (.yield l) #[] #[], .pointer (some p)] := by
    have : cv = #[.pointer (some p)] := by
      apply Array.ext
      · simpa using hcs
      · intro j h1 h2
        have : j = 0 := by simp at h2; omega
        subst this
        simpa [Array.getD_eq_getD_getElem?, h1] using e1
    rw [this]; rfl
  rw [hargs]
  -- at any later time
  have now : ∀ {i : Nat} {w : World} {S : Sh}, J i w S → ∃ S₀, S = shunOf S₀ ∧ (cellAt w p.block p.off = some (.slice ad xs.length c) ∧ ¬ S₀ p.block ∧ p.block < w.heap.size) ∧ ∀ j, j < xs.length → ∃ a0, ad = some a0 ∧ a0.spot = none ∧ cellAt w a0.block (a0.off + j) = some (.int .i64 (xs.getD j 0)) ∧ ¬ S₀ a0.block ∧ a0.block < w.heap.size := fun h => by
    obtain ⟨k1, ⟨⟨S₀, eS, hs⟩, _⟩, k3⟩ := hpr _ _ _ h
    refine ⟨S₀, eS, ⟨(cellAt_congr (k1 _ hpp) _).trans cellp, hs.pr _ hpp, k3 _ hpp⟩, fun j hj => ?_⟩
    obtain ⟨a0, q1, q2, q3, q4⟩ := elem j hj
    exact ⟨a0, q1, q2, (cellAt_congr (k1 _ q3) _).trans q4, hs.pr _ q3, k3 _ q3⟩
  have hu : Tryz.prog.underlying 23 = some (.slice 3) := Tryz.underlying23
  have hk : Tryz.prog.underlying 3 = some (.int .i64) := Tryz.underlying3
  have hss : ∀ w : World, (sizeOf 23).run Tryz.prog w = .ok 1 w := Tryz.sizeOf23
  have hsa : ∀ w : World, (isAgg 23).run Tryz.prog w = .ok false w := Tryz.isAgg23
  have his : ∀ w : World, (sizeOf 3).run Tryz.prog w = .ok 1 w := Tryz.sizeOf3
  have hia : ∀ w : World, (isAgg 3).run Tryz.prog w = .ok false w := Tryz.isAgg3
  refine callsE_of_wpE Tryz.func230 rfl ?_
  generalize ha0 : ({ tmps := #[Value.func (Fn.yield l) #[] #[], Value.pointer (some p)] ++ Array.replicate (Tryz.f230.ntmps - #[Value.func (Fn.yield l) #[] #[], Value.pointer (some p)].size) undef, defers := [] } : Act) = a0
  have hd0 : a0.defers = [] := by rw [← ha0]
  have hnt : Tryz.f230.ntmps = 19 := rfl
  have z0 : a0.tmps.size = 19 := by rw [← ha0]; simp [hnt]
  have t0 : a0.tmps.getD 0 undef = .func (.yield l) #[] #[] := by rw [← ha0, Array.getD_eq_getD_getElem?, Array.getElem?_append_left (by simp)]; rfl
  have t1 : a0.tmps.getD 1 undef = .pointer (some p) := by rw [← ha0, Array.getD_eq_getD_getElem?, Array.getElem?_append_left (by simp)]; rfl
  clear ha0
  refine wpE_seq (wpE_region ?_)
  show opsE _ _ _ [0, 1, 2, 3] _ _ _ _
  obtain ⟨S₀, eS, ⟨c1, c2, c3⟩, c4⟩ := now h0
  refine opsE_ex 4 (.slice ad xs.length c) rfl rfl rfl (ex_load rfl hss hsa (by rw [eval_tmp]; exact t1) hps c1 eS c2 c3) ?_
  refine opsE_ex 5 (.int .i64 xs.length) rfl rfl rfl (ex_quiet (ex_len rfl rfl hu (by rw [eval_tmp, put_getD (by simp [put_size, z0])]; rfl))) ?_
  refine opsE_ex 6 (.int .i64 ((xs.length : Int) - 1)) rfl rfl rfl (ex_quiet (ex_int rfl (by rw [eval_tmp, put_getD (by simp [put_size, z0])]; rfl) rfl fun w => by simp [binOp, Op.intArith]; exact wrap_i64 (by omega) (by omega))) ?_
  refine opsE_ex 3 (.int .i64 ((xs.length : Int) - 1)) rfl rfl rfl (ex_quiet (ex_assign rfl (by rw [eval_tmp, put_getD (by simp [put_size, z0])]; rfl))) ?_
  refine opsE_nil ?_
  show wpE _ _ _ _ _ _ _
  refine wpE_block ?_
  refine wpE_loop (fun (i : Nat) a w S => i ≤ xs.length ∧ J i w S ∧ a.defers = [] ∧ a.tmps.size = 19 ∧ a.tmps.getD 0 undef = .func (.yield l) #[] #[] ∧ a.tmps.getD 1 undef = .pointer (some p) ∧ a.tmps.getD 3 undef = .int .i64 ((xs.length : Int) - 1 - i)) (fun i => xs.length - i) 0 ⟨by omega, h0, ?_, ?_, ?_, ?_, ?_⟩ fun i a w S ⟨hi, hJ, hd, z, s0, s1, s3⟩ => ?_
  · exact hd0
  · simp only [put_size, z0]
  · simp (config := { decide := true }) only [put_getD, put_size, z0, t0, t1, if_true, if_false]
  · simp (config := { decide := true }) only [put_getD, put_size, z0, t0, t1, if_true, if_false]
  · simp (config := { decide := true }) only [put_getD, put_size, z0, t0, t1, if_true, if_false]
    simp
  clear t0 t1 hd0 z0
  refine wpE_seq (wpE_seq (wpE_region ?_))
  show opsE _ _ _ [0, 1] _ _ _ _
  refine opsE_ex 7 (.int .i64 ((xs.length : Int) - 1 - i)) rfl rfl rfl (ex_quiet (ex_move rfl (by rw [eval_tmp]; exact s3))) ?_
  refine opsE_ex 8 (.bool (decide ((xs.length : Int) - 1 - i ≥ 0))) rfl rfl rfl (ex_quiet (ex_int (i := (xs.length : Int) - 1 - i) (j := 0) rfl (by rw [eval_tmp]; simp (config := { decide := true }) only [put_getD, put_size, z, s0, s1, s3, if_true, if_false]) rfl (fun w => by simp [binOp, Op.intCmp]))) ?_
  refine opsE_nil ?_
  by_cases hlt : i < xs.length
  · have hb : decide ((xs.length : Int) - 1 - i ≥ 0) = true := decide_eq_true (by omega)
    rw [hb]
    refine wpE_cond (t := true) (by rw [eval_tmp]; simp (config := { decide := true }) only [put_getD, put_size, z, s0, s1, s3, if_true, if_false]) ?_
    refine wpE_skip ?_
    refine wpE_seq (wpE_block (wpE_seq (wpE_region ?_)))
    show opsE _ _ _ [0, 1, 2, 3, 4, 5, 6, 7] _ _ _ _
    obtain ⟨S₀, eS, ⟨c1, c2, c3⟩, c4⟩ := now hJ
    obtain ⟨a0, q1, q2, q3, q4, q5⟩ := c4 (xs.length - 1 - i) (by omega)
    subst q1
    have ej : ((xs.length - 1 - i : Nat) : Int) = (xs.length : Int) - 1 - i := by omega
    refine opsE_ex 11 (.func (.yield l) #[] #[]) rfl rfl rfl (ex_quiet (ex_move rfl (by rw [eval_tmp]; simp (config := { decide := true }) only [put_getD, put_size, z, s0, s1, s3, if_true, if_false]))) ?_
    refine opsE_ex 12 (.int .i64 ((xs.length : Int) - 1 - i)) rfl rfl rfl (ex_quiet (ex_move rfl (by rw [eval_tmp]; simp (config := { decide := true }) only [put_getD, put_size, z, s0, s1, s3, if_true, if_false]))) ?_
    refine opsE_ex 13 (.slice (some a0) xs.length c) rfl rfl rfl (ex_load rfl hss hsa (by rw [eval_tmp]; simp (config := { decide := true }) only [put_getD, put_size, z, s0, s1, s3, if_true, if_false]) hps c1 eS c2 c3) ?_
    refine opsE_ex 14 (.int .i64 ((xs.length - 1 - i : Nat) : Int)) rfl rfl rfl (ex_quiet (ex_move rfl (by rw [eval_tmp, ej]; simp (config := { decide := true }) only [put_getD, put_size, z, s0, s1, s3, if_true, if_false]))) ?_
    refine opsE_ex 15 (.pointer (some (a0.add (xs.length - 1 - i)))) rfl rfl rfl (ex_quiet (ex_index (n := xs.length) (c := c) rfl hu his (by rw [eval_tmp]; simp (config := { decide := true }) only [put_getD, put_size, z, s0, s1, s3, if_true, if_false]) (by rw [eval_tmp]; simp (config := { decide := true }) only [put_getD, put_size, z, s0, s1, s3, if_true, if_false]) (by omega))) ?_
    refine opsE_ex 16 (.int .i64 (xs.getD (xs.length - 1 - i) 0)) rfl rfl rfl (ex_load (p := a0.add (xs.length - 1 - i)) rfl his hia (by rw [eval_tmp]; simp (config := { decide := true }) only [put_getD, put_size, z, s0, s1, s3, if_true, if_false]) (by rw [addr_add' q2]) (by rw [addr_add' q2]; exact q3) eS (by rw [addr_add' q2]; exact q4) (by rw [addr_add' q2]; exact q5)) ?_
    refine opsE_yield' 17 (l := l) (vs := #[.int .i64 ((xs.length : Int) - 1 - i), .int .i64 (xs.getD (xs.length - 1 - i) 0)]) rfl rfl rfl (fun w₁ _ => ?_) (hy i (by rw [bwd_len]; exact hlt) w S _ hJ (by rw [bwd_at]; rfl) (fun k x hk => ?_)) (fun w' S' hJ' => ?_)
    · exact ex_yield rfl (by rw [eval_tmp]; simp (config := { decide := true }) only [put_getD, put_size, z, s0, s1, s3, if_true, if_false]) (by rw [eval_tmp]; simp (config := { decide := true }) only [put_getD, put_size, z, s0, s1, s3, if_true, if_false]) (by rw [eval_tmp]; simp (config := { decide := true }) only [put_getD, put_size, z, s0, s1, s3, if_true, if_false]) w₁
    · rw [bwd_at] at hk
      match k, hk with
      | 0, hk => simp only [List.getElem?_cons_zero, Option.some.injEq] at hk; subst hk; exact .cv _ _ (.sc _ rfl)
      | 1, hk => simp only [List.getElem?_cons_succ, List.getElem?_cons_zero, Option.some.injEq] at hk; subst hk; exact .cv _ _ (.sc _ rfl)
    · refine opsE_ex 18 (.bool false) rfl rfl rfl (ex_quiet (ex_not (q := true) rfl (by rw [eval_tmp]; simp (config := { decide := true }) only [put_getD, put_size, z, s0, s1, s3, if_true, if_false]))) ?_
      refine opsE_nil ?_
      refine wpE_cond (t := false) (by rw [eval_tmp]; simp (config := { decide := true }) only [put_getD, put_size, z, s0, s1, s3, if_true, if_false]) ?_
      refine wpE_skip ?_
      show wpE _ _ _ _ _ _ _
      refine wpE_region ?_
      show opsE _ _ _ [0, 1, 2] _ _ _ _
      refine opsE_ex 9 (.int .i64 ((xs.length : Int) - 1 - i)) rfl rfl rfl (ex_quiet (ex_move rfl (by rw [eval_tmp]; simp (config := { decide := true }) only [put_getD, put_size, z, s0, s1, s3, if_true, if_false]))) ?_
      refine opsE_ex 10 (.int .i64 ((xs.length : Int) - 1 - i - 1)) rfl rfl rfl (ex_quiet (ex_int (i := (xs.length : Int) - 1 - i) (j := 1) rfl (by rw [eval_tmp]; simp (config := { decide := true }) only [put_getD, put_size, z, s0, s1, s3, if_true, if_false]) rfl (fun w => by simp [binOp, Op.intArith]; exact wrap_i64 (by omega) (by omega)))) ?_
      refine opsE_ex 3 (.int .i64 ((xs.length : Int) - 1 - i - 1)) rfl rfl rfl (ex_quiet (ex_assign rfl (by rw [eval_tmp]; simp (config := { decide := true }) only [put_getD, put_size, z, s0, s1, s3, if_true, if_false]))) ?_
      refine opsE_nil ?_
      refine ⟨i + 1, ⟨by omega, hJ', by simp (config := { decide := true }) only [put_getD, put_size, put_defers, z, s0, s1, s3, hd, if_true, if_false], by simp (config := { decide := true }) only [put_getD, put_size, put_defers, z, s0, s1, s3, hd, if_true, if_false], by simp (config := { decide := true }) only [put_getD, put_size, put_defers, z, s0, s1, s3, hd, if_true, if_false], by simp (config := { decide := true }) only [put_getD, put_size, put_defers, z, s0, s1, s3, hd, if_true, if_false], ?_⟩, by omega⟩
      simp (config := { decide := true }) only [put_getD, put_size, put_defers, z, s0, s1, s3, hd, if_true, if_false]
      congr 1; omega
  · have hb : decide ((xs.length : Int) - 1 - i ≥ 0) = false := decide_eq_false (by omega)
    rw [hb]
    refine wpE_cond (t := false) (by rw [eval_tmp]; simp (config := { decide := true }) only [put_getD, put_size, z, s0, s1, s3, if_true, if_false]) ?_
    refine wpE_exit ?_
    have hi' : i = xs.length := by omega
    subst hi'
    show BodyE _ _ _ _ .normal _ _ _
    refine ⟨by simp (config := { decide := true }) only [put_getD, put_size, put_defers, z, s0, s1, s3, hd, if_true, if_false], fun w₁ hr => ⟨.tuple #[], by simp [results, Tryz.f230], fun e he => ?_, ?_⟩⟩
    · have := seen_sub e he
      simp [results, Tryz.f230] at this
    · rw [bwd_len]; exact hrel _ _ _ _ hJ hr
end Go.Proofs.YtdjoodbidcncaaaGreatDoor.AW
