/- errors.As at a concrete target. -/
import Derived.Test.YtdjoodbidcncaaaGreatDoorMAxL
import Derived.Test.YtdjoodbidcncaaaGreatDoorMAxX
import Derived.LaidEql
import Derived.Stop.Asserts
import Derived.RowKitTokens
import Derived.Conc.AtomicLaws
set_option linter.unusedVariables false
set_option linter.unusedSimpArgs false
namespace Go.Proofs.YtdjoodbidcncaaaGreatDoor.AW
open Go Go.Extern Go.Stop Go.Extern.Stop
set_option maxRecDepth 10000
/-- the dump's package-level variables: handles of types lie behind them -/
abbrev gN : Nat := 2
abbrev tP : TypeId := 136
abbrev tPP : TypeId := 141
abbrev tR : TypeId := 214
abbrev tE : TypeId := 139
noncomputable abbrev PP : Program := Tryz.prog
abbrev hv (t : TypeId) : Value := .pointer (some ⟨gN, t, none⟩)
/-! closed facts -/
theorem x_unpackPP (t : Addr) (w : World) : (ReflectliteValue.unpack (.iface tPP (.pointer (some t)))).run PP w = .ok (.agg #[hv tPP, .pointer (some ⟨w.heap.size, 0, none⟩), .int .u64 150]) { w with heap := w.heap.push (.cells #[.pointer (some t)] tPP) } := by kernel_rfl
theorem x_unpackPPe (t : Addr) (w : World) : (ReflectliteValue.unpack (.iface tPP (.pointer (some t)))).events PP w #[] = #[] := by kernel_rfl
theorem x_unpackP (t : Addr) (w : World) : (ReflectliteValue.unpack (.iface tP (.pointer (some t)))).run PP w = .ok (.agg #[hv tP, .pointer (some ⟨w.heap.size, 0, none⟩), .int .u64 150]) { w with heap := w.heap.push (.cells #[.pointer (some t)] tP) } := by kernel_rfl
theorem x_unpackPe (t : Addr) (w : World) : (ReflectliteValue.unpack (.iface tP (.pointer (some t)))).events PP w #[] = #[] := by kernel_rfl
theorem x_type (a : Addr) (w : World) : (ReflectliteValue.methodAny (ReflectliteValue.valueError "reflectlite.Value.Type" 0) (fun t _ _ _ => ReflectliteType.toType t) #[.agg #[hv tPP, .pointer (some a), .int .u64 150]]).run PP w = .ok (.iface tR (.agg #[hv tPP])) w := by kernel_rfl
theorem x_typee (a : Addr) (w : World) : (ReflectliteValue.methodAny (ReflectliteValue.valueError "reflectlite.Value.Type" 0) (fun t _ _ _ => ReflectliteType.toType t) #[.agg #[hv tPP, .pointer (some a), .int .u64 150]]).events PP w #[] = #[] := by kernel_rfl
theorem x_mKind (h : Value) (w : World) : (Go.method (PP.types.size + Made.depth) tR (.agg #[h]) "Kind").run PP w = .ok (245, h) w := by kernel_rfl
theorem x_mKinde (h : Value) (w : World) : (Go.method (PP.types.size + Made.depth) tR (.agg #[h]) "Kind").events PP w #[] = #[] := by kernel_rfl
theorem x_mElem (h : Value) (w : World) : (Go.method (PP.types.size + Made.depth) tR (.agg #[h]) "Elem").run PP w = .ok (264, .agg #[h]) w := by kernel_rfl
theorem x_mEleme (h : Value) (w : World) : (Go.method (PP.types.size + Made.depth) tR (.agg #[h]) "Elem").events PP w #[] = #[] := by kernel_rfl
theorem x_mImp (h : Value) (w : World) : (Go.method (PP.types.size + Made.depth) tR (.agg #[h]) "Implements").run PP w = .ok (265, .agg #[h]) w := by kernel_rfl
theorem x_mImpe (h : Value) (w : World) : (Go.method (PP.types.size + Made.depth) tR (.agg #[h]) "Implements").events PP w #[] = #[] := by kernel_rfl
theorem x_mAss (h : Value) (w : World) : (Go.method (PP.types.size + Made.depth) tR (.agg #[h]) "AssignableTo").run PP w = .ok (262, .agg #[h]) w := by kernel_rfl
theorem x_mAsse (h : Value) (w : World) : (Go.method (PP.types.size + Made.depth) tR (.agg #[h]) "AssignableTo").events PP w #[] = #[] := by kernel_rfl
abbrev eKind : Array Value → Sem Value := ReflectliteType.abiMethod fun t => do pure (.int .u8 (← Rtype.kind t))
theorem x_kindPP (w : World) : (eKind #[hv tPP]).run PP w = .ok (.int .u8 22) w := by kernel_rfl
theorem x_kindPPe (w : World) : (eKind #[hv tPP]).events PP w #[] = #[] := by kernel_rfl
theorem x_kindP (w : World) : (eKind #[hv tP]).run PP w = .ok (.int .u8 22) w := by kernel_rfl
theorem x_kindPe (w : World) : (eKind #[hv tP]).events PP w #[] = #[] := by kernel_rfl
theorem x_elem (w : World) : (ReflectliteType.method ReflectliteType.elem #[.agg #[hv tPP]]).run PP w = .ok (.iface tR (.agg #[hv tP])) w := by kernel_rfl
theorem x_eleme (w : World) : (ReflectliteType.method ReflectliteType.elem #[.agg #[hv tPP]]).events PP w #[] = #[] := by kernel_rfl
theorem x_imp (w : World) : (ReflectliteType.relation "Implements" ReflectliteType.implements_ #[.agg #[hv tP], .iface tR (.agg #[hv tE])]).run PP w = .ok (.bool true) w := by kernel_rfl
theorem x_impe (w : World) : (ReflectliteType.relation "Implements" ReflectliteType.implements_ #[.agg #[hv tP], .iface tR (.agg #[hv tE])]).events PP w #[] = #[] := by kernel_rfl
theorem x_typeOf (v : Value) (w : World) : (ReflectliteType.typeOf #[.iface tP v]).run PP w = .ok (.iface tR (.agg #[hv tP])) w := by kernel_rfl
theorem x_typeOfe (v : Value) (w : World) : (ReflectliteType.typeOf #[.iface tP v]).events PP w #[] = #[] := by kernel_rfl
theorem x_ass (w : World) : (ReflectliteType.relation "AssignableTo" ReflectliteType.assignableTo #[.agg #[hv tP], .iface tR (.agg #[hv tP])]).run PP w = .ok (.bool true) w := by kernel_rfl
theorem x_asse (w : World) : (ReflectliteType.relation "AssignableTo" ReflectliteType.assignableTo #[.agg #[hv tP], .iface tR (.agg #[hv tP])]).events PP w #[] = #[] := by kernel_rfl
theorem x_rlm (z : Sem Value) (f : TypeId → Addr → Nat → Nat → Sem Value) (v : Value) :
    ReflectliteValue.method z f #[v] = (do match ← ReflectliteValue.parts v with | none => z | some (t, a, fl) => f t a fl (fl % 32)) := rfl
theorem x_partsPP (a : Addr) (w : World) : (ReflectliteValue.parts (.agg #[hv tPP, .pointer (some a), .int .u64 150])).run PP w = .ok (some (tPP, a, 150)) w := by kernel_rfl
theorem x_partsPPe (a : Addr) (w : World) : (ReflectliteValue.parts (.agg #[hv tPP, .pointer (some a), .int .u64 150])).events PP w #[] = #[] := by kernel_rfl
theorem x_partsPa (a : Addr) (w : World) : (ReflectliteValue.parts (.agg #[hv tP, .pointer (some a), .int .u64 406])).run PP w = .ok (some (tP, a, 406)) w := by kernel_rfl
theorem x_partsPae (a : Addr) (w : World) : (ReflectliteValue.parts (.agg #[hv tP, .pointer (some a), .int .u64 406])).events PP w #[] = #[] := by kernel_rfl
theorem x_partsP (a : Addr) (w : World) : (ReflectliteValue.parts (.agg #[hv tP, .pointer (some a), .int .u64 150])).run PP w = .ok (some (tP, a, 150)) w := by kernel_rfl
theorem x_partsPe (a : Addr) (w : World) : (ReflectliteValue.parts (.agg #[hv tP, .pointer (some a), .int .u64 150])).events PP w #[] = #[] := by kernel_rfl
theorem x_elemOf (w : World) : (Rtype.elem? tPP).run PP w = .ok (some tP) w := by kernel_rfl
theorem x_elemOfe (w : World) : (Rtype.elem? tPP).events PP w #[] = #[] := by kernel_rfl
theorem x_mk (p : Addr) (w : World) : (ReflectliteValue.mk tP p ReflectliteValue.flagAddr).run PP w = .ok (.agg #[hv tP, .pointer (some p), .int .u64 406]) w := by kernel_rfl
theorem x_mke (p : Addr) (w : World) : (ReflectliteValue.mk tP p ReflectliteValue.flagAddr).events PP w #[] = #[] := by kernel_rfl
theorem x_direct (w : World) : (Rtype.directlyAssignable tP tP).run PP w = .ok true w := by kernel_rfl
theorem x_directe (w : World) : (Rtype.directlyAssignable tP tP).events PP w #[] = #[] := by kernel_rfl
theorem x_size (w : World) : (sizeOf tP).run PP w = .ok 1 w := by kernel_rfl
theorem x_sizee (w : World) : (sizeOf tP).events PP w #[] = #[] := by kernel_rfl
theorem x_aggPP (w : World) : (isAgg tPP).run PP w = .ok false w := by kernel_rfl
theorem x_aggPPe (w : World) : (isAgg tPP).events PP w #[] = #[] := by kernel_rfl
theorem x_aggP (w : World) : (isAgg tP).run PP w = .ok false w := by kernel_rfl
theorem x_aggPe (w : World) : (isAgg tP).events PP w #[] = #[] := by kernel_rfl
end Go.Proofs.YtdjoodbidcncaaaGreatDoor.AW

/- errors.As at a concrete target: its operations. -/
namespace Go.Proofs.YtdjoodbidcncaaaGreatDoor.AW
open Go Go.Extern Go.Stop Go.Extern.Stop
set_option maxRecDepth 10000
abbrev hA (t : TypeId) : AV := .cv (.sc (hv t))
abbrev rtA (t : TypeId) : AV := .ifc tR (.agg [hA t])
abbrev u64A (z : Int) : AV := .cv (.sc (.int .u64 z))
structure Xt (f : FuncId) (e : Array Value → Sem Value) : Prop where
  out : ∃ fn : Func, PP.funcs[f]? = some fn ∧ (fn.name == "runtime.NumGoroutine") = false ∧ fn.body.isNone = true ∧ Extern.findNext fn = none ∧ Extern.find fn = some e
section
variable {o : Oper} {N : Nat} {T : Nat → AV} {H : Nat → Option Block}
/-- what an operation that calls the model's own function does -/
structure Doo (o : Oper) (a : Act) (f : FuncId) (VS : Array Value) : Prop where
  run : ∀ w, (execOp a.eval o).run PP w = (callFunc f VS).run PP w
  ev : ∀ w, (execOp a.eval o).events PP w #[] = (callFunc f VS).events PP w #[]
theorem doo_v {a : Act} {args : Array Operand} {ats : Array TypeId} {f : FuncId} (ho : o.op = .call { callee := .value (.func f), args := args, argTypes := ats }) : Doo o a f (args.map a.eval) := by
  have hx : a.eval (.func f) = .func (.func f) #[] #[] := rfl
  constructor <;> intro w
  · simp only [execOp, ho, resolve, hx, Deferred.ofValue]
    rw [Sem.run_bind]
    simp [Go.invoke]
  · simp only [execOp, ho, resolve, hx, Deferred.ofValue]
    rw [Sem.events_bind]
    simp [Go.invoke]
theorem doo_m {a : Act} {x : Operand} {name : String} {args : Array Operand} {ats : Array TypeId} {f : FuncId} (ho : o.op = .call { callee := .invoke x name, args := args, argTypes := ats }) {t : TypeId} {u u' : Value} (hx : a.eval x = .iface t u)
    (hm : ∀ w, (method (PP.types.size + Made.depth) t u name).run PP w = .ok (f, u') w) (hme : ∀ w, (method (PP.types.size + Made.depth) t u name).events PP w #[] = #[]) : Doo o a f (#[u'] ++ args.map a.eval) := by
  have e0 : (#[Value.iface t u] ++ args.map a.eval)[0]? = some (.iface t u) := by rw [Array.getElem?_append_left Nat.zero_lt_one]; rfl
  have e1 : (#[Value.iface t u] ++ args.map a.eval).extract 1 (#[Value.iface t u] ++ args.map a.eval).size = args.map a.eval := by
    apply Array.ext'; simp [List.take_of_length_le]
  have eo : execOp a.eval o = (do let d ← resolve a.eval { callee := .invoke x name, args := args, argTypes := ats } o.type; Go.invoke d.target d.args) := by unfold execOp; rw [ho]
  constructor <;> intro w <;> rw [eo] <;> simp only [resolve, hx]
  · rw [Sem.run_bind]
    simp only [Sem.run_pure, Result.andThen_ok, Go.invoke, e0, e1, callMethod]
    rw [Sem.run_bind, run_program]
    simp only [Result.andThen_ok]
    rw [Sem.run_bind, hm w]
    rfl
  · rw [Sem.events_bind]
    simp only [Sem.run_pure, Sem.events_pure, Result.evThen_ok, Go.invoke, e0, e1, callMethod]
    rw [Sem.events_bind, run_program]
    simp only [Result.evThen_ok, events_program]
    rw [Sem.events_bind, hm w, hme w]
    rfl
theorem Doo.runx {a : Act} {f : FuncId} {VS : Array Value} {e : Array Value → Sem Value} {u : Value} {w w' : World} (d : Doo o a f VS) (x : Xt f e) (h : (e VS).run PP w = .ok u w') : (execOp a.eval o).run PP w = .ok (.value u) w' := by
  obtain ⟨fn, h1, h2, h3, h4, h5⟩ := x.out
  rw [d.run, run_callFunc_extern h1 h2 h3 h4 h5, h]; rfl
theorem Doo.evx {a : Act} {f : FuncId} {VS : Array Value} {e : Array Value → Sem Value} {w w' : World} {E : Emb} (d : Doo o a f VS) (x : Xt f e) (h : EvOk E w w' ((e VS).events PP w #[])) : EvOk E w w' ((execOp a.eval o).events PP w #[]) := by
  obtain ⟨fn, h1, h2, h3, h4, h5⟩ := x.out
  rw [d.ev, Go.Conc.events_callFunc_extern h1 h2 h3 h4 h5, Sem.events_acc]
  intro ev hev
  rcases Array.mem_append.1 hev with g | g
  · exact .inl (.inl (.inr ⟨f, by simpa using g⟩))
  · exact h ev g
theorem ext_pure {nx : Nat} {K : Eff → Prop} {v : AV} (hk : K ⟨v, [], [], []⟩) (h : ∀ T', (∀ x ∈ o.op.operands, ev T' x = ev T x) → ∀ E (a : Act) w, TInv N E T' a w → ∃ f VS e u, Doo o a f VS ∧ Xt f e ∧ (e VS).run PP w = .ok u w ∧ (e VS).events PP w #[] = #[] ∧ RepA w E v u) : CallVC ctx o N T H nx K := by
  unfold CallVC
  refine does_val hk fun T' H' g1 _ E a w ht _ => ?_
  obtain ⟨f, VS, e, u, d, x, h1, h2, h3⟩ := h T' g1 E a w ht
  exact ⟨u, w, d.runx x h1, rfl, h3, d.evx x (.nil h2)⟩
theorem agg3 {w : World} {E : Emb} {x y z : AV} {u : Value} (h : RepA w E (.agg [x, y, z]) u) : ∃ a b c, u = .agg #[a, b, c] ∧ RepA w E x a ∧ RepA w E y b ∧ RepA w E z c := by
  obtain ⟨vs, rfl, hs, hr⟩ := rep_agg h
  have hs : vs.size = 3 := hs
  have h0 := hr 0 _ rfl
  have h1 := hr 1 _ rfl
  have h2 := hr 2 _ rfl
  have e : vs = #[vs.getD 0 undef, vs.getD 1 undef, vs.getD 2 undef] := by
    apply Array.ext
    · simpa using hs
    · intro i hi _
      match i, hi with
      | 0, hi => simp [Array.getD_eq_getD_getElem?, hi]
      | 1, hi => simp [Array.getD_eq_getD_getElem?, hi]
      | 2, hi => simp [Array.getD_eq_getD_getElem?, hi]
      | n + 3, hi => omega
  exact ⟨_, _, _, by rw [e]; rfl, h0, h1, h2⟩
theorem agg1 {w : World} {E : Emb} {x : AV} {u : Value} (h : RepA w E (.agg [x]) u) : ∃ a, u = .agg #[a] ∧ RepA w E x a := by
  obtain ⟨vs, rfl, hs, hr⟩ := rep_agg h
  have hs : vs.size = 1 := hs
  have h0 := hr 0 _ rfl
  have e : vs = #[vs.getD 0 undef] := by
    apply Array.ext
    · simpa using hs
    · intro i hi _
      match i, hi with
      | 0, hi => simp [Array.getD_eq_getD_getElem?, hi]
      | n + 1, hi => omega
  exact ⟨_, by rw [e]; rfl, h0⟩
theorem mk_agg3 {w : World} {E : Emb} {x y z : AV} {a b c : Value} (h0 : RepA w E x a) (h1 : RepA w E y b) (h2 : RepA w E z c) : RepA w E (.agg [x, y, z]) (.agg #[a, b, c]) := .agg _ _ rfl fun k v hk => by
  match k, hk with
  | 0, hk => simp only [List.getElem?_cons_zero, Option.some.injEq] at hk; subst hk; exact h0
  | 1, hk => simp only [List.getElem?_cons_succ, List.getElem?_cons_zero, Option.some.injEq] at hk; subst hk; exact h1
  | 2, hk => simp only [List.getElem?_cons_succ, List.getElem?_cons_zero, Option.some.injEq] at hk; subst hk; exact h2
  | n + 3, hk => simp at hk
theorem mk_rt {w : World} {E : Emb} (t : TypeId) : RepA w E (rtA t) (.iface tR (.agg #[hv t])) := .ifc _ _ _ (.agg _ _ rfl fun k v hk => by
  match k, hk with
  | 0, hk => simp only [List.getElem?_cons_zero, Option.some.injEq] at hk; subst hk; exact .cv _ _ (.sc _ rfl)
  | n + 1, hk => simp at hk)
theorem rt_rep {w : World} {E : Emb} {t : TypeId} {u : Value} (h : RepA w E (rtA t) u) : u = .iface tR (.agg #[hv t]) := by
  obtain ⟨v, rfl, hv'⟩ := rep_ifc h
  obtain ⟨a, rfl, ha⟩ := agg1 hv'
  rw [rep_sc ha]
abbrev valA (t : TypeId) (b st i k : Nat) (fl : Int) : AV := .agg [hA t, .ptr b st i k, u64A fl]
theorem val_rep {w : World} {E : Emb} {t : TypeId} {b st i k : Nat} {fl : Int} {u : Value} (h : RepA w E (valA t b st i k fl) u) : E.U b ∧ ¬ E.gh b ∧ u = .agg #[hv t, .pointer (some ⟨E.blk b, i * st + k, none⟩), .int .u64 fl] := by
  obtain ⟨x, y, z, rfl, h0, h1, h2⟩ := agg3 h
  obtain ⟨hU, rfl⟩ := rep_ptr h1
  exact ⟨hU, rep_ptr_g h1, by rw [rep_sc h0, rep_sc h2]⟩
/-! the operations -/
theorem xt_unpack : Xt 162 (fun args => ReflectliteValue.unpack (args.getD 0 (.tuple #[]))) := ⟨_, Tryz.func162, by kernel_rfl, by kernel_rfl, by kernel_rfl, by kernel_rfl⟩
theorem xt_type : Xt 163 (ReflectliteValue.methodAny (ReflectliteValue.valueError "reflectlite.Value.Type" 0) (fun t _ _ _ => ReflectliteType.toType t)) := ⟨_, Tryz.func163, by kernel_rfl, by kernel_rfl, by kernel_rfl, by kernel_rfl⟩
theorem xt_isNil : Xt 164 (ReflectliteValue.method (ReflectliteValue.valueError "reflectlite.Value.IsNil" 0) ReflectliteValue.isNil) := ⟨_, Tryz.func164, by kernel_rfl, by kernel_rfl, by kernel_rfl, by kernel_rfl⟩
theorem xt_kind : Xt 245 eKind := ⟨_, Tryz.func245, by kernel_rfl, by kernel_rfl, by kernel_rfl, by kernel_rfl⟩
theorem xt_elem : Xt 264 (ReflectliteType.method ReflectliteType.elem) := ⟨_, Tryz.func264, by kernel_rfl, by kernel_rfl, by kernel_rfl, by kernel_rfl⟩
theorem xt_imp : Xt 265 (ReflectliteType.relation "Implements" ReflectliteType.implements_) := ⟨_, Tryz.func265, by kernel_rfl, by kernel_rfl, by kernel_rfl, by kernel_rfl⟩
theorem xt_typeOf : Xt 189 ReflectliteType.typeOf := ⟨_, Tryz.func189, by kernel_rfl, by kernel_rfl, by kernel_rfl, by kernel_rfl⟩
theorem xt_ass : Xt 262 (ReflectliteType.relation "AssignableTo" ReflectliteType.assignableTo) := ⟨_, Tryz.func262, by kernel_rfl, by kernel_rfl, by kernel_rfl, by kernel_rfl⟩
theorem xt_velem : Xt 207 (ReflectliteValue.method (ReflectliteValue.valueError "reflectlite.Value.Elem" 0) ReflectliteValue.elem) := ⟨_, Tryz.func207, by kernel_rfl, by kernel_rfl, by kernel_rfl, by kernel_rfl⟩
theorem xt_set : Xt 208 ReflectliteValue.set := ⟨_, Tryz.func208, by kernel_rfl, by kernel_rfl, by kernel_rfl, by kernel_rfl⟩
end
end Go.Proofs.YtdjoodbidcncaaaGreatDoor.AW

/- errors.As at a concrete target: contracts. -/
namespace Go.Proofs.YtdjoodbidcncaaaGreatDoor.AW
open Go Go.Extern Go.Stop Go.Extern.Stop
set_option maxRecDepth 10000
section
variable {o : Oper} {N : Nat} {T : Nat → AV} {H : Nat → Option Block} {nx : Nat} {K : Eff → Prop}
theorem memv {x : Operand} {args : Array Operand} {ats : Array TypeId} {f : FuncId} (ho : o.op = .call { callee := .value (.func f), args := args, argTypes := ats }) (hx : x ∈ args) : x ∈ o.op.operands := by simp [ho, Op.operands, Call.operands, hx]
theorem memm {x y : Operand} {name : String} {args : Array Operand} {ats : Array TypeId} (ho : o.op = .call { callee := .invoke x name, args := args, argTypes := ats }) (hy : y = x ∨ y ∈ args) : y ∈ o.op.operands := by
  rcases hy with rfl | hy <;> simp [ho, Op.operands, Call.operands, *]
/-- what an interface value holds is read as a variable of its own -/
theorem o_unpack {x : Operand} {ats : Array TypeId} {t : TypeId} (ho : o.op = .call { callee := .value (.func 162), args := #[x], argTypes := ats })
    (ht : ∀ (p : Addr) (w : World), (ReflectliteValue.unpack (.iface t (.pointer (some p)))).run PP w = .ok (.agg #[hv t, .pointer (some ⟨w.heap.size, 0, none⟩), .int .u64 150]) { w with heap := w.heap.push (.cells #[.pointer (some p)] t) } ∧ (ReflectliteValue.unpack (.iface t (.pointer (some p)))).events PP w #[] = #[])
    {b st i k : Nat} (hx : ev T x = .ifc t (.ptr b st i k)) (h : K ⟨valA t nx 1 0 0 150, [(nx, some (.box [.ptr b st i k]))], [nx], []⟩) : CallVC ctx o N T H nx K := by
  unfold CallVC
  refine ⟨_, loc_mk fun T' H' g1 _ E a w ht' hh hf => ?_, rfl, h⟩
  obtain ⟨u, e1, hu⟩ := rep_ifc (rep_at ht' (g1 x (memv ho (by simp))) hx)
  have hu0 := hu
  obtain ⟨hU, rfl⟩ := rep_ptr hu
  obtain ⟨r1, r2⟩ := ht ⟨E.blk b, i * st + k, none⟩ w
  have d := doo_v (a := a) ho
  have ea : (#[x].map a.eval) = #[.iface t (.pointer (some ⟨E.blk b, i * st + k, none⟩))] := by simp [e1]
  rw [ea] at d
  have hn : ¬ E.U nx := hf nx (by simp)
  have nm := Emb.add_nm (r := w.heap.size) (s := 1) hn
  have old : ∀ r, r < w.heap.size → ({ w with heap := w.heap.push (.cells #[.pointer (some ⟨E.blk b, i * st + k, none⟩)] t) } : World).heap[r]? = w.heap[r]? := fun r hr => push_old hr
  have pr : ∀ r, E.pr r → ({ w with heap := w.heap.push (.cells #[.pointer (some ⟨E.blk b, i * st + k, none⟩)] t) } : World).heap[r]? = w.heap[r]? := fun r hr => old r (hh.frlt r (hh.prfr r hr))
  have hb : (E.add nx w.heap.size 1).blk nx = w.heap.size := by simp [Emb.add]
  obtain ⟨k1, k2⟩ := hh.alloc (B := .box [.ptr b st i k]) (s := 1) hn (by simp) old ⟨rfl, rfl, rfl⟩ ⟨by simp [Emb.add], #[.pointer (some ⟨E.blk b, i * st + k, none⟩)], by rw [hb]; exact plain_new, by simp [Emb.add], by simp, fun q y hy => by
    cases q with
    | zero =>
      simp only [List.getElem?_cons_zero, Option.some.injEq] at hy
      subst hy
      exact hu0.mono (E' := E.add nx w.heap.size 1) pr (fun _ h => h) nm
    | succ q => simp at hy⟩
  refine ⟨_, _, E.add nx w.heap.size 1, .inl (d.runx xt_unpack r1), ?_, k1, k2, fun b => by simp [Emb.add, or_comm], d.evx xt_unpack (.nil r2)⟩
  refine mk_agg3 (.cv _ _ (.sc _ rfl)) ?_ (.cv _ _ (.sc _ rfl))
  have := RepA.ptr (w := { w with heap := w.heap.push (.cells #[.pointer (some ⟨E.blk b, i * st + k, none⟩)] t) }) (E := E.add nx w.heap.size 1) nx 1 0 0 (.inl rfl) (by simp [Emb.add])
  rw [hb] at this; simpa using this
theorem o_type {x : Operand} {ats : Array TypeId} (ho : o.op = .call { callee := .value (.func 163), args := #[x], argTypes := ats }) {b st i k : Nat} (hx : ev T x = valA tPP b st i k 150) (h : K ⟨rtA tPP, [], [], []⟩) : CallVC ctx o N T H nx K :=
  ext_pure h fun T' g1 E a w ht => by
    obtain ⟨_, _, e1⟩ := val_rep (rep_at ht (g1 x (memv ho (by simp))) hx)
    have d := doo_v (a := a) ho
    have ea : (#[x].map a.eval) = #[.agg #[hv tPP, .pointer (some ⟨E.blk b, i * st + k, none⟩), .int .u64 150]] := by simp [e1]
    rw [ea] at d
    exact ⟨_, _, _, _, d, xt_type, x_type _ w, x_typee _ w, mk_rt _⟩
theorem o_kind {x : Operand} {ats : Array TypeId} {t : TypeId} (ho : o.op = .call { callee := .invoke x "Kind", args := #[], argTypes := ats }) (ht : ∀ w, (eKind #[hv t]).run PP w = .ok (.int .u8 22) w ∧ (eKind #[hv t]).events PP w #[] = #[]) (hx : ev T x = rtA t) (h : K ⟨.cv (.sc (.int .u8 22)), [], [], []⟩) : CallVC ctx o N T H nx K :=
  ext_pure h fun T' g1 E a w ht' => by
    have e1 := rt_rep (rep_at ht' (g1 x (memm ho (.inl rfl))) hx)
    have d := doo_m (a := a) ho e1 (x_mKind _) (x_mKinde _)
    have ea : #[hv t] ++ (#[].map a.eval : Array Value) = #[hv t] := by simp
    rw [ea] at d
    exact ⟨_, _, _, _, d, xt_kind, (ht w).1, (ht w).2, .cv _ _ (.sc _ rfl)⟩
theorem o_elem {x : Operand} {ats : Array TypeId} (ho : o.op = .call { callee := .invoke x "Elem", args := #[], argTypes := ats }) (hx : ev T x = rtA tPP) (h : K ⟨rtA tP, [], [], []⟩) : CallVC ctx o N T H nx K :=
  ext_pure h fun T' g1 E a w ht' => by
    have e1 := rt_rep (rep_at ht' (g1 x (memm ho (.inl rfl))) hx)
    have d := doo_m (a := a) ho e1 (x_mElem _) (x_mEleme _)
    have ea : #[Value.agg #[hv tPP]] ++ (#[].map a.eval : Array Value) = #[.agg #[hv tPP]] := by simp
    rw [ea] at d
    exact ⟨_, _, _, _, d, xt_elem, x_elem w, x_eleme w, mk_rt _⟩
theorem o_imp {x y : Operand} {ats : Array TypeId} (ho : o.op = .call { callee := .invoke x "Implements", args := #[y], argTypes := ats }) (hx : ev T x = rtA tP) (hy : ev T y = rtA tE) (h : K ⟨bv true, [], [], []⟩) : CallVC ctx o N T H nx K :=
  ext_pure h fun T' g1 E a w ht' => by
    have e1 := rt_rep (rep_at ht' (g1 x (memm ho (.inl rfl))) hx)
    have e2 := rt_rep (rep_at ht' (g1 y (memm ho (.inr (by simp)))) hy)
    have d := doo_m (a := a) ho e1 (x_mImp _) (x_mImpe _)
    have ea : #[Value.agg #[hv tP]] ++ (#[y].map a.eval) = #[.agg #[hv tP], .iface tR (.agg #[hv tE])] := by simp [e2]
    rw [ea] at d
    exact ⟨_, _, _, _, d, xt_imp, x_imp w, x_impe w, .cv _ _ (.sc _ rfl)⟩
theorem o_ass {x y : Operand} {ats : Array TypeId} (ho : o.op = .call { callee := .invoke x "AssignableTo", args := #[y], argTypes := ats }) (hx : ev T x = rtA tP) (hy : ev T y = rtA tP) (h : K ⟨bv true, [], [], []⟩) : CallVC ctx o N T H nx K :=
  ext_pure h fun T' g1 E a w ht' => by
    have e1 := rt_rep (rep_at ht' (g1 x (memm ho (.inl rfl))) hx)
    have e2 := rt_rep (rep_at ht' (g1 y (memm ho (.inr (by simp)))) hy)
    have d := doo_m (a := a) ho e1 (x_mAss _) (x_mAsse _)
    have ea : #[Value.agg #[hv tP]] ++ (#[y].map a.eval) = #[.agg #[hv tP], .iface tR (.agg #[hv tP])] := by simp [e2]
    rw [ea] at d
    exact ⟨_, _, _, _, d, xt_ass, x_ass w, x_asse w, .cv _ _ (.sc _ rfl)⟩
theorem o_typeOf {x : Operand} {ats : Array TypeId} (ho : o.op = .call { callee := .value (.func 189), args := #[x], argTypes := ats }) {y : AV} (hx : ev T x = .ifc tP y) (h : K ⟨rtA tP, [], [], []⟩) : CallVC ctx o N T H nx K :=
  ext_pure h fun T' g1 E a w ht => by
    obtain ⟨u, e1, _⟩ := rep_ifc (rep_at ht (g1 x (memv ho (by simp))) hx)
    have d := doo_v (a := a) ho
    have ea : (#[x].map a.eval) = #[.iface tP u] := by simp [e1]
    rw [ea] at d
    exact ⟨_, _, _, _, d, xt_typeOf, x_typeOf _ w, x_typeOfe _ w, mk_rt _⟩
/-- the package-level variable of the type 'error' -/
theorem o_glob {t : TypeId} (ho : o.op = .load t (.global 1)) (hl : (1, Value.iface tR (.agg #[hv tE])) ∈ gl) (ha : ∀ w, (isAgg t).run PP w = .ok false w ∧ (isAgg t).events PP w #[] = #[]) (h : K ⟨rtA tE, [], [], []⟩) : CallVC ctx o N T H nx K := by
  unfold CallVC
  refine ⟨⟨rtA tE, [], [], []⟩, fun T' H' _ _ fn E a w x Kk _ hh hok _ hk => ?_, rfl, h⟩
  refine ctx.sound.opVal fun w₁ hr => ?_
  obtain ⟨hheap, hio⟩ := ctx.sound.rel hr
  obtain ⟨g1, g2⟩ := hh.same hheap hio
  have hok₁ := ctx.sound.okExt hok g2
  obtain ⟨p1, p2, p3⟩ := ctx_gl hok₁ _ hl
  have p3 : w₁.cell? ⟨1, 0, none⟩ = some (.iface tR (.agg #[hv tE])) := p3
  have e : a.eval (.global 1) = .pointer (some ⟨1, 0, none⟩) := rfl
  have hlr : (loadVar t ⟨1, 0, none⟩).run PP w₁ = .ok (.iface tR (.agg #[hv tE])) w₁ := by
    unfold loadVar; rw [Sem.run_bind, (ha w₁).1]; simp [p3]
  have hle : (loadVar t ⟨1, 0, none⟩).events PP w₁ #[] = #[⟨.cell ⟨1, 0, none⟩, false, false⟩] := by
    unfold loadVar; rw [Sem.events_bind, (ha w₁).1, (ha w₁).2]; simp [p3]
  have hrun : (execOp a.eval o).run PP w₁ = .ok (.value (.iface tR (.agg #[hv tE]))) w₁ := by
    simp only [execOp, ho, e, Instr.loadAt, Instr.sureAddr]
    rw [Sem.run_bind, Sem.run_bind]; simp [hlr]
  have hev : (execOp a.eval o).events PP w₁ #[] = #[⟨.cell ⟨1, 0, none⟩, false, false⟩] := by
    simp only [execOp, ho, e, Instr.loadAt, Instr.sureAddr]
    simp only [Sem.events_bind, Sem.events_pure, Sem.run_pure, Result.evThen_ok, hle]
    exact evThen_last _ _
  refine ⟨_, w₁, .inl hrun, Nat.le_refl _, ctx.sound.evSub (ctx.sound.okEv (es := (execOp a.eval o).events PP w₁ #[]) hok₁ (w' := w₁) ?_) seen_sub, hk _ E w₁ x (mk_rt _) g1 hok₁ (ctx.M.leRefl _ _) g2 (fun b => by simp)⟩
  rw [hev]
  exact EvOk.ro p1 (cell_lt p3) fun e he => by simp at he; subst he; exact ⟨_, _, rfl, rfl⟩
theorem box0 {E : Emb} {H' : Nat → Option Block} {w : World} (hh : HInv E H' w) {c b st i k : Nat} (hc : H' c = some (.box [.ptr b st i k])) : ∃ cells, Plain w (E.blk c) cells ∧ cells.size = E.sz c ∧ 0 < cells.size ∧ ¬ E.gh c ∧ E.U b ∧ ¬ E.gh b ∧ w.cell? ⟨E.blk c, 0, none⟩ = some (.pointer (some ⟨E.blk b, i * st + k, none⟩)) := by
  obtain ⟨hg, cells, hp, hs, hl, hr⟩ := hh.hp c _ hc
  have h0 := hr 0 _ rfl
  obtain ⟨hU, e⟩ := rep_ptr h0
  have hl : 0 < cells.size := by simp at hl; omega
  refine ⟨cells, hp, hs, hl, hg, hU, rep_ptr_g h0, ?_⟩
  rw [hp.cell, Array.getElem?_eq_getElem hl]
  rw [Array.getD_eq_getD_getElem?, Array.getElem?_eq_getElem hl] at e
  simpa using e
theorem lv {t : TypeId} {p : Addr} {v : Value} {w : World} (ha : (isAgg t).run PP w = .ok false w ∧ (isAgg t).events PP w #[] = #[]) (hc : w.cell? p = some v) : (loadVar t p).run PP w = .ok v w ∧ (loadVar t p).events PP w #[] = #[⟨.cell p, false, false⟩] := by
  unfold loadVar
  constructor
  · rw [Sem.run_bind, ha.1]; simp [hc]
  · rw [Sem.events_bind, ha.1, ha.2]; simp [hc]
theorem x_isNil (a p : Addr) (w : World) (ha : w.cell? a = some (.pointer (some p))) : (ReflectliteValue.method (ReflectliteValue.valueError "reflectlite.Value.IsNil" 0) ReflectliteValue.isNil #[.agg #[hv tPP, .pointer (some a), .int .u64 150]]).run PP w = .ok (.bool false) w ∧
    (ReflectliteValue.method (ReflectliteValue.valueError "reflectlite.Value.IsNil" 0) ReflectliteValue.isNil #[.agg #[hv tPP, .pointer (some a), .int .u64 150]]).events PP w #[] = #[⟨.cell a, false, false⟩] := by
  obtain ⟨l1, l2⟩ := lv (t := tPP) (w := w) ⟨x_aggPP w, x_aggPPe w⟩ ha
  rw [x_rlm]
  constructor
  · rw [Sem.run_bind, x_partsPP]
    simp [ReflectliteValue.isNil, l1]
  · rw [Sem.events_bind, x_partsPP, x_partsPPe]
    simp [ReflectliteValue.isNil, l1, l2, Sem.events_bind]
theorem x_velem (a p : Addr) (w : World) (ha : w.cell? a = some (.pointer (some p))) : (ReflectliteValue.method (ReflectliteValue.valueError "reflectlite.Value.Elem" 0) ReflectliteValue.elem #[.agg #[hv tPP, .pointer (some a), .int .u64 150]]).run PP w = .ok (.agg #[hv tP, .pointer (some p), .int .u64 406]) w ∧
    (ReflectliteValue.method (ReflectliteValue.valueError "reflectlite.Value.Elem" 0) ReflectliteValue.elem #[.agg #[hv tPP, .pointer (some a), .int .u64 150]]).events PP w #[] = #[⟨.cell a, false, false⟩] := by
  obtain ⟨l1, l2⟩ := lv (t := tPP) (w := w) ⟨x_aggPP w, x_aggPPe w⟩ ha
  rw [x_rlm]
  constructor
  · rw [Sem.run_bind, x_partsPP]
    simp [ReflectliteValue.elem, l1, x_elemOf, x_mk]
  · rw [Sem.events_bind, x_partsPP, x_partsPPe]
    have e1 : (Rtype.elem? tPP).events PP w #[⟨.cell a, false, false⟩] = #[⟨.cell a, false, false⟩] := by rw [Sem.events_acc, x_elemOfe]; rfl
    have e2 : (ReflectliteValue.mk tP p ReflectliteValue.flagAddr).events PP w #[⟨.cell a, false, false⟩] = #[⟨.cell a, false, false⟩] := by rw [Sem.events_acc, x_mke]; rfl
    simp [ReflectliteValue.elem, l1, l2, Sem.events_bind, x_elemOf, e1, e2]
theorem o_isNil {x : Operand} {ats : Array TypeId} (ho : o.op = .call { callee := .value (.func 164), args := #[x], argTypes := ats }) {c b st i k : Nat} (hx : ev T x = valA tPP c 1 0 0 150) (hc : H c = some (.box [.ptr b st i k])) (h : K ⟨bv false, [], [], [c]⟩) : CallVC ctx o N T H nx K := by
  unfold CallVC
  refine does_val h fun T' H' g1 g2 E a w ht hh => ?_
  obtain ⟨hU, hg, e1⟩ := val_rep (rep_at ht (g1 x (memv ho (by simp))) hx)
  obtain ⟨cells, hp, _, _, _, _, _, hcell⟩ := box0 hh ((g2 c (by simp)).trans hc)
  have d := doo_v (a := a) ho
  have ea : (#[x].map a.eval) = #[.agg #[hv tPP, .pointer (some ⟨E.blk c, 0, none⟩), .int .u64 150]] := by simp [e1]
  rw [ea] at d
  obtain ⟨r1, r2⟩ := x_isNil _ _ w hcell
  exact ⟨_, w, d.runx xt_isNil r1, rfl, .cv _ _ (.sc _ rfl), d.evx xt_isNil (by rw [r2]; exact .own hU hg hp.lt fun e he => by simp at he; subst he; exact ⟨_, _, rfl, rfl⟩)⟩
theorem o_velem {x : Operand} {ats : Array TypeId} (ho : o.op = .call { callee := .value (.func 207), args := #[x], argTypes := ats }) {c b st i k : Nat} (hx : ev T x = valA tPP c 1 0 0 150) (hc : H c = some (.box [.ptr b st i k])) (h : K ⟨valA tP b st i k 406, [], [], [c]⟩) : CallVC ctx o N T H nx K := by
  unfold CallVC
  refine does_val h fun T' H' g1 g2 E a w ht hh => ?_
  obtain ⟨hU, hg, e1⟩ := val_rep (rep_at ht (g1 x (memv ho (by simp))) hx)
  obtain ⟨cells, hp, _, _, _, hUb, hgb, hcell⟩ := box0 hh ((g2 c (by simp)).trans hc)
  have d := doo_v (a := a) ho
  have ea : (#[x].map a.eval) = #[.agg #[hv tPP, .pointer (some ⟨E.blk c, 0, none⟩), .int .u64 150]] := by simp [e1]
  rw [ea] at d
  obtain ⟨r1, r2⟩ := x_velem _ _ w hcell
  exact ⟨_, w, d.runx xt_velem r1, rfl, mk_agg3 (.cv _ _ (.sc _ rfl)) (.ptr _ _ _ _ hUb hgb) (.cv _ _ (.sc _ rfl)), d.evx xt_velem (by rw [r2]; exact .own hU hg hp.lt fun e he => by simp at he; subst he; exact ⟨_, _, rfl, rfl⟩)⟩
theorem x_rls (v x : Value) : ReflectliteValue.set #[v, x] = (do
    let (some (dst, a, fl), some (src, b, _)) := (← ReflectliteValue.parts v, ← ReflectliteValue.parts x)
      | unsupported (.noEntry "extern/(internal/reflectlite.Value).Set.zeroValue")
    if fl / ReflectliteValue.flagAddr % 2 == 0 then unsupported (.noEntry "extern/(internal/reflectlite.Value).Set.unaddressable")
    let val ← loadVar src b
    if ← Rtype.directlyAssignable dst src then storeVar dst a val
    else if ← Rtype.implements dst src then
      if (← Rtype.kind src) == 20 then
        match val with
        | .nilIface => unsupported (.noEntry "extern/reflectlite: a nil value of one interface type handed on as a value of another")
        | _ => storeVar dst a val
      else storeVar dst a (.iface src val)
    else panicString ("reflectlite.Set: value of type " ++ (← Rtype.spelt src) ++ " is not assignable to type " ++ (← Rtype.spelt dst))
    pure (.tuple #[])) := rfl
theorem x_set (r : Nat) (b e : Addr) (old : Value) (w : World) (hb : w.cell? b = some (.pointer (some e))) (ht : w.cell? ⟨r, 0, none⟩ = some old) (hf : w.frozen? ⟨r, 0, none⟩ = false) :
    (ReflectliteValue.set #[.agg #[hv tP, .pointer (some ⟨r, 0, none⟩), .int .u64 406], .agg #[hv tP, .pointer (some b), .int .u64 150]]).run PP w = .ok (.tuple #[]) (w.setCells r 0 [.pointer (some e)]) ∧
    (ReflectliteValue.set #[.agg #[hv tP, .pointer (some ⟨r, 0, none⟩), .int .u64 406], .agg #[hv tP, .pointer (some b), .int .u64 150]]).events PP w #[] = #[⟨.cell b, false, false⟩, ⟨.cell ⟨r, 0, none⟩, true, false⟩] := by
  obtain ⟨l1, l2⟩ := lv (t := tP) (w := w) ⟨x_aggP w, x_aggPe w⟩ hb
  have l2' := fun es => Sem.events_acc PP (loadVar tP b) w es
  have st : (storeVar tP ⟨r, 0, none⟩ (.pointer (some e))).run PP w = .ok () (w.setCells r 0 [.pointer (some e)]) := by
    unfold storeVar
    rw [Sem.run_bind, x_size]
    simp [Value.cells, storeCells, Addr.add]
    rw [run_store PP w ⟨r, 0, none⟩ _ _ (by rfl)]
    simp [ht, hf, World.setCells]
  have ste : (storeVar tP ⟨r, 0, none⟩ (.pointer (some e))).events PP w #[] = #[⟨.cell ⟨r, 0, none⟩, true, false⟩] := by
    unfold storeVar
    rw [Sem.events_bind, x_size, x_sizee]
    simp [Value.cells, storeCells, Addr.add]
    rw [events_store PP w _ ⟨r, 0, none⟩ _ _ (by rfl)]
    simp [ht, hf]
  rw [x_rls]
  constructor
  · simp only [Sem.run_bind, x_partsPa, x_partsP, Result.andThen_ok]
    simp [ReflectliteValue.flagAddr, l1, x_direct, st]
  · simp only [Sem.events_bind, Sem.run_bind, x_partsPa, x_partsPae, x_partsP, x_partsPe, Result.andThen_ok, Result.evThen_ok]
    have d1 : ∀ es, (Rtype.directlyAssignable tP tP).events PP w es = es := fun es => by rw [Sem.events_acc, x_directe]; simp
    have d2 : ∀ es, (storeVar tP ⟨r, 0, none⟩ (.pointer (some e))).events PP w es = es ++ #[⟨.cell ⟨r, 0, none⟩, true, false⟩] := fun es => by rw [Sem.events_acc, ste]
    simp [ReflectliteValue.flagAddr, l1, l2, x_direct, st, Sem.events_bind, d1, d2]
theorem o_set {x y : Operand} {ats : Array TypeId} (ho : o.op = .call { callee := .value (.func 208), args := #[x, y], argTypes := ats }) {b c e st i k : Nat} {z : AV} (hx : ev T x = valA tP b 1 0 0 406) (hy : ev T y = valA tP c 1 0 0 150) (hb : H b = some (.box [z])) (hc : H c = some (.box [.ptr e st i k])) (h : K ⟨.tup [], [(b, some (.box [.ptr e st i k]))], [], [b, c]⟩) : CallVC ctx o N T H nx K := by
  unfold CallVC
  refine ⟨_, loc_mk fun T' H' g1 g2 E a w ht hh _ => ?_, rfl, h⟩
  obtain ⟨hU, hg, e1⟩ := val_rep (rep_at ht (g1 x (memv ho (by simp))) hx)
  obtain ⟨hUc, hgc, e2⟩ := val_rep (rep_at ht (g1 y (memv ho (by simp))) hy)
  have hb' := (g2 b (by simp)).trans hb
  obtain ⟨ccells, hpc, _, _, _, hUe, hge, hcell⟩ := box0 hh ((g2 c (by simp)).trans hc)
  obtain ⟨_, cells, p, hs, hle, hcs⟩ := hh.hp b _ hb'
  have hl : 0 < cells.size := by simp at hle; omega
  have d := doo_v (a := a) ho
  have ea : (#[x, y].map a.eval) = #[.agg #[hv tP, .pointer (some ⟨E.blk b, 0, none⟩), .int .u64 406], .agg #[hv tP, .pointer (some ⟨E.blk c, 0, none⟩), .int .u64 150]] := by simp [e1, e2]
  rw [ea] at d
  obtain ⟨r1, r2⟩ := x_set (E.blk b) ⟨E.blk c, 0, none⟩ _ _ w hcell ((p.cell 0).trans (Array.getElem?_eq_getElem hl)) (p.frozen hl)
  obtain ⟨cells', q1, q2, q3, q4, q5, q6⟩ := setCells_heap (E.blk b) [.pointer (some ⟨E.blk e, i * st + k, none⟩)] 0 w cells p (by simp; omega)
  have prk : ∀ r, E.pr r → (w.setCells (E.blk b) 0 [.pointer (some ⟨E.blk e, i * st + k, none⟩)]).heap[r]? = w.heap[r]? := fun r hr => q6 r fun er => (hh.un b _ hb').2 hg (hh.prfr _ (er ▸ hr))
  obtain ⟨k1, k2⟩ := hh.store (w' := w.setCells (E.blk b) 0 [.pointer (some ⟨E.blk e, i * st + k, none⟩)]) (B' := .box [.ptr e st i k]) hb' hg q5 q6 (sameIO_setCells _ _ _ _) ⟨hg, cells', q1, by rw [q2, hs], by simp; omega, fun q y hq => by
    cases q with
    | zero =>
      simp only [List.getElem?_cons_zero, Option.some.injEq] at hq
      subst hq
      have := q4 0 (by simp)
      rw [show cells'.getD 0 undef = .pointer (some ⟨E.blk e, i * st + k, none⟩) from this]
      exact .ptr _ _ _ _ hUe hge
    | succ q => simp at hq⟩
  refine ⟨.tuple #[], _, E, .inl (d.runx xt_set r1), .tup _ _ rfl (by simp), k1, k2, fun b => by simp, d.evx xt_set ?_⟩
  rw [r2]
  intro ev hev
  simp only [List.mem_toArray, List.mem_cons, List.not_mem_nil, or_false] at hev
  rcases hev with rfl | rfl
  · exact .inr ⟨_, _, rfl, .inr (.inl ⟨c, hUc, hgc, rfl⟩), by rw [q5]; exact hpc.lt⟩
  · exact .inr ⟨_, _, rfl, .inr (.inl ⟨b, hU, hg, rfl⟩), by rw [q5]; exact p.lt⟩
end
theorem uPP : ∀ (p : Addr) (w : World), (ReflectliteValue.unpack (.iface tPP (.pointer (some p)))).run PP w = .ok (.agg #[hv tPP, .pointer (some ⟨w.heap.size, 0, none⟩), .int .u64 150]) { w with heap := w.heap.push (.cells #[.pointer (some p)] tPP) } ∧ (ReflectliteValue.unpack (.iface tPP (.pointer (some p)))).events PP w #[] = #[] := fun p w => ⟨x_unpackPP p w, x_unpackPPe p w⟩
theorem uP : ∀ (p : Addr) (w : World), (ReflectliteValue.unpack (.iface tP (.pointer (some p)))).run PP w = .ok (.agg #[hv tP, .pointer (some ⟨w.heap.size, 0, none⟩), .int .u64 150]) { w with heap := w.heap.push (.cells #[.pointer (some p)] tP) } ∧ (ReflectliteValue.unpack (.iface tP (.pointer (some p)))).events PP w #[] = #[] := fun p w => ⟨x_unpackP p w, x_unpackPe p w⟩
abbrev nilP : AV := .cv (.sc (.pointer none))
set_option maxHeartbeats 1000000 in
theorem as_s (id : Int) : Spec ctx 165 [.ifc tP (.ptr 0 1 0 0), .ifc tPP (.ptr 1 1 0 0), valA tPP 2 1 0 0 150, rtA tP] [.box [iv .i64 id], .box [nilP], .box [.ptr 1 1 0 0]] (bv true) [] := by
  refine spec_mk ctx_mixed ctx_enters 9 Tryz.func165 rfl rfl (Nat.le_of_ble_eq_true rfl) 3 rfl ?_; conv => whnf
  repeat' ((first | (with_reducible first | refine d_chk ?_ | refine Br.tt ?_ | refine Br.ff ?_ | refine Br.beq ?_ | refine Br.bne ?_ | refine Br.nt ?_ | refine Br.nf ?_ | refine d_wrap ?_ | refine d_rem ?_ | refine d_nat ?_ | refine d_get (by omega) ?_ | refine Br.yesd ?_ | refine Br.nod ?_ | refine Br.yesn ?_ | refine Br.nodn ?_ | refine d_le ?_ | refine d_lt ?_ | refine And.intro ?_ ?_ | exact trivial | exact .inr rfl | rfl | refine sc_int | refine sc_bt ?_ | refine sc_bf ?_ | refine sc_bb ?_ | refine sc_bh ?_ | refine sc_ih ?_) | with_reducible refine Br.dec (fun _ => ?_) (fun _ => ?_) | with_reducible refine Br.decn (fun _ => ?_) (fun _ => ?_) | with_reducible refine d_left [] ?_ ?_ | exact rfl | exact Nat.le_of_ble_eq_true rfl | (refine Nat.le_of_eq ?_; simp [rows, seqI]; done) | refine call_go rfl rfl [] ?_ | (refine Hid.mk ?_; first | decide | omega | (simp <;> omega) | (intro e; subst e; omega) | (intro e; subst e; simp_all; done) | exact Prod.ext (by omega) (by omega))) <;> conv => whnf)
  refine AW.loopP (fun _ : Nat => ⟨[(0, .ifc tP (.ptr 0 1 0 0)), (1, .ifc tPP (.ptr 1 1 0 0)), (3, rtA tP), (6, .ptr 3 3 0 0)], [(0, some (.box [iv .i64 id])), (1, some (.box [nilP])), (2, some (.box [.ptr 1 1 0 0])), (3, some (.box [hA tPP, .ptr 2 1 0 0, u64A 150]))], 4⟩) (fun _ => True) (fun _ => 0) 0 [(0, 0), (1, 1), (2, 2), (3, 3)] (d_sub _ ?_ ?_) trivial (fun i hi => ?_) <;> (conv => whnf) <;>
  repeat' ((first | (with_reducible first | refine d_chk ?_ | refine Br.tt ?_ | refine Br.ff ?_ | refine Br.beq ?_ | refine Br.bne ?_ | refine Br.nt ?_ | refine Br.nf ?_ | refine d_wrap ?_ | refine d_rem ?_ | refine d_nat ?_ | refine d_get (by omega) ?_ | refine Br.yesd ?_ | refine Br.nod ?_ | refine Br.yesn ?_ | refine Br.nodn ?_ | refine d_le ?_ | refine d_lt ?_ | refine And.intro ?_ ?_ | exact trivial | exact .inr rfl | rfl | refine sc_int | refine sc_bt ?_ | refine sc_bf ?_ | refine sc_bb ?_ | refine sc_bh ?_ | refine sc_ih ?_) | refine o_typeOf rfl rfl ?_ | refine o_ass rfl rfl rfl ?_ | refine o_velem rfl rfl rfl ?_ | refine o_unpack rfl uP rfl ?_ | refine o_set rfl rfl rfl rfl rfl ?_ | with_reducible refine d_left [(0, 0), (1, 1), (2, 2)] ?_ ?_ | with_reducible refine Br.dec (fun _ => ?_) (fun _ => ?_) | with_reducible refine Br.decn (fun _ => ?_) (fun _ => ?_) | with_reducible refine d_left [] ?_ ?_ | exact rfl | exact Nat.le_of_ble_eq_true rfl | (refine Nat.le_of_eq ?_; simp [rows, seqI]; done) | refine call_go rfl rfl [] ?_ | (refine Hid.mk ?_; first | decide | omega | (simp <;> omega) | (intro e; subst e; omega) | (intro e; subst e; simp_all; done) | exact Prod.ext (by omega) (by omega))) <;> conv => whnf)
end Go.Proofs.YtdjoodbidcncaaaGreatDoor.AW
