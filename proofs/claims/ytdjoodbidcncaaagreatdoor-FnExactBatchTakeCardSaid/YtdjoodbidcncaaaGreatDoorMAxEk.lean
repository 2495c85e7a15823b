/- The library's group in this program; a share's cells are ints. -/
import Derived.Test.YtdjoodbidcncaaaGreatDoorMAxCa
import Derived.Test.YtdjoodbidcncaaaGreatDoorMAxMo
import Derived.Test.YtdjoodbidcncaaaGreatDoorMAxT
import Derived.Test.YtdjoodbidcncaaaGreatDoorMAxEj
set_option linter.unusedVariables false
set_option linter.unusedSimpArgs false
namespace Go.Proofs.YtdjoodbidcncaaaGreatDoor.AW
open Go Go.Conc Go.ConcN
open Go.ConcR (Payload)
abbrev link : Go.Conc.Lib.WgLink := { add := 125, done := 127, wait := 128, relMerge := 166, disable := 167, enable := 168, inBubble := 169, associate := 170, fatal := 171, uOr := 172, uAdd := 173, raceRead := 174, uLoad := 175, uStore := 176, disassociate := 177, semrelease := 178, acquire := 179, isAssociated := 180, uCas := 181, raceWrite := 182, semacquire := 183, orU64 := 209, addU64 := 210, loadU64 := 211, storeU64 := 212, casU64 := 213, tWgP := 184, tUP := 169, tAssoc := 186, tWg := 148, tAU := 146, tU64 := 144, tUint := 190, tU32 := 114, tPU32 := 191, tPAU := 225, tPU64 := 227, tNoCopy := 113, tANoCopy := 142, tAlign64 := 143 }
theorem wgLib : Go.Conc.Lib.WgLib Tryz.prog link :=
  ⟨Tryz.func125, Tryz.func127, Tryz.func128, Tryz.func166, Tryz.func167, Tryz.func168, Tryz.func169, Tryz.func170, Tryz.func171, Tryz.func172, Tryz.func173, Tryz.func174, Tryz.func175, Tryz.func176, Tryz.func177, Tryz.func178, Tryz.func179, Tryz.func180, Tryz.func181, Tryz.func182, Tryz.func183, Tryz.func209, Tryz.func210, Tryz.func211, Tryz.func212, Tryz.func213, Tryz.underlying184, Tryz.runUnderlying184, Tryz.sizeOf184, Tryz.isAgg184, Tryz.zeroValue184, Tryz.underlying169, Tryz.runUnderlying169, Tryz.sizeOf169, Tryz.isAgg169, Tryz.zeroValue169, Tryz.underlying186, Tryz.runUnderlying186, Tryz.sizeOf186, Tryz.isAgg186, Tryz.zeroValue186, Tryz.underlying148, Tryz.runUnderlying148, Tryz.sizeOf148, Tryz.isAgg148, Tryz.zeroValue148, Tryz.underlying146, Tryz.runUnderlying146, Tryz.sizeOf146, Tryz.isAgg146, Tryz.zeroValue146, Tryz.underlying144, Tryz.runUnderlying144, Tryz.sizeOf144, Tryz.isAgg144, Tryz.zeroValue144, Tryz.underlying190, Tryz.runUnderlying190, Tryz.sizeOf190, Tryz.isAgg190, Tryz.zeroValue190, Tryz.underlying114, Tryz.runUnderlying114, Tryz.sizeOf114, Tryz.isAgg114, Tryz.zeroValue114, Tryz.underlying191, Tryz.runUnderlying191, Tryz.sizeOf191, Tryz.isAgg191, Tryz.zeroValue191, Tryz.underlying225, Tryz.runUnderlying225, Tryz.sizeOf225, Tryz.isAgg225, Tryz.zeroValue225, Tryz.underlying227, Tryz.runUnderlying227, Tryz.sizeOf227, Tryz.isAgg227, Tryz.zeroValue227, Tryz.underlying0, Tryz.runUnderlying0, Tryz.sizeOf0, Tryz.isAgg0, Tryz.zeroValue0, Tryz.underlying3, Tryz.runUnderlying3, Tryz.sizeOf3, Tryz.isAgg3, Tryz.zeroValue3, Tryz.underlying4, Tryz.runUnderlying4, Tryz.sizeOf4, Tryz.isAgg4, Tryz.zeroValue4, Tryz.underlying9, Tryz.runUnderlying9, Tryz.sizeOf9, Tryz.isAgg9, Tryz.zeroValue9, Tryz.underlying20, Tryz.runUnderlying20, Tryz.sizeOf20, Tryz.isAgg20, Tryz.zeroValue20, Tryz.underlying21, Tryz.runUnderlying21, Tryz.sizeOf21, Tryz.isAgg21, Tryz.zeroValue21, (by kernel_rfl), (by kernel_rfl)⟩
instance : Payload := ⟨3⟩
end Go.Proofs.YtdjoodbidcncaaaGreatDoor.AW

/- A worker of impl.each: the operations of its body. -/
namespace Go.Proofs.YtdjoodbidcncaaaGreatDoor.AW
open Go Go.Conc Go.ConcN Go.RowKit Go.Conc.Lib Go.ConcR.Gen Go.ConcN.Gen
open Go.ConcR (KK wgBlock WgAt stA smA rd wr mk Payload Aside2 DC0 Bk g_of_ofEvents)
/-- what the workers are given: the blocks of the variables make2, a, b, out; the function; the elements -/
structure WP where
  Bf : Nat
  Ba : Nat
  Bb : Nat
  Bo : Nat
  mkf : FuncId
  ra : Nat
  oa : Nat
  ca : Nat
  rb : Nat
  ob : Nat
  cb : Nat
  xs : Nat → Int
  ys : Nat → Int
  zs : Nat → Int
def WP.ro (q : WP) (b : Nat) : Prop := b = q.Bf ∨ b = q.Ba ∨ b = q.Bb ∨ b = q.Bo ∨ b = q.ra ∨ b = q.rb
structure WK (p : Ph) (q : WP) (j : Nat) (w : World) : Prop where
  outv : w.cell? ⟨q.Bo, 0, none⟩ = some (.slice (some ⟨p.C, 0, none⟩) p.n p.n)
  iv : w.cell? ⟨p.Lw j, 0, none⟩ = some (.int .i64 j)
  fv : w.cell? ⟨q.Bf, 0, none⟩ = some (.func (.func q.mkf) #[] #[])
  av : w.cell? ⟨q.Ba, 0, none⟩ = some (.slice (some ⟨q.ra, q.oa, none⟩) p.n q.ca)
  bv : w.cell? ⟨q.Bb, 0, none⟩ = some (.slice (some ⟨q.rb, q.ob, none⟩) p.n q.cb)
  xv : w.cell? ⟨q.ra, q.oa + j, none⟩ = some (.int .i64 (q.xs j))
  yv : w.cell? ⟨q.rb, q.ob + j, none⟩ = some (.int .i64 (q.ys j))
  live : WgLive p.ty p.Wg w
  pay : PayAt p.C p.n w
structure WSep (p : Ph) (q : WP) : Prop where
  sep : ∀ b, q.ro b → b < p.Lw 0 ∧ b ≠ p.Wg ∧ b ≠ p.C
  rd : ∀ a : Addr, q.ro a.block → p.Rd (.cell a)
  lw : ∀ k, p.Lw k < p.Lw (k + 1)
section
variable {p : Ph} {q : WP} {j : Nat} {w w₁ : World}
theorem WK.rely (O : p.Ok) (hs : WSep p q) (h : WK p q j w) (r : RWk p j w w₁) : WK p q j w₁ := by
  have ro : ∀ b, q.ro b → ∀ o, w₁.cell? ⟨b, o, none⟩ = w.cell? ⟨b, o, none⟩ := fun b hb o => by
    obtain ⟨h1, h2, h3⟩ := hs.sep b hb
    exact cell_of_block (r.low b (Nat.lt_of_lt_of_le h1 (O.mono 0 _ (Nat.zero_le _))) h2 h3) o
  have hW := Nat.lt_of_lt_of_le O.hW (O.mono 0 j (Nat.zero_le _))
  have hC := Nat.lt_of_lt_of_le O.hC (O.mono 0 j (Nat.zero_le _))
  exact ⟨(ro _ (by simp [WP.ro]) _).trans h.outv, (cell_of_block (r.low _ (hs.lw j) (by omega) (by omega)) 0).trans h.iv, (ro _ (by simp [WP.ro]) _).trans h.fv, (ro _ (by simp [WP.ro]) _).trans h.av, (ro _ (by simp [WP.ro]) _).trans h.bv,
    (ro _ (by simp [WP.ro]) _).trans h.xv, (ro _ (by simp [WP.ro]) _).trans h.yv, r.live h.live, r.pay h.pay⟩
theorem cell_below {a : Addr} {v : Value} (h : w.cell? a = some v) : a.block < w.heap.size := Nat.lt_of_not_le fun hle => by
  simp [World.cell?, Array.getElem?_eq_none hle] at h
/-- reading -/
theorem dwk_read {a : Addr} {v : Value} (hs : WSep p q) (hc : w.cell? a = some v) (h : q.ro a.block ∨ a = ⟨p.Lw j, 0, none⟩) : DWk p j w w #[⟨.cell a, false, false⟩] := by
  refine ⟨AsideCell.refl _ _ _ w, fun e he => ?_⟩
  simp at he
  subst he
  refine ⟨⟨fun x hx => ?_, by simp, cell_below hc⟩, by simp, by simp⟩
  simp only [Go.ConcR.ofEvent_cell, MemAct.touch?, Option.some.injEq] at hx
  subst hx
  rcases h with h | rfl
  · exact .inr ⟨.inr ⟨hs.rd a h, rfl⟩, rfl⟩
  · exact .inr ⟨.inl (.inr rfl), rfl⟩
variable {P : Program} {main : Bool} {b : Frame} {a : Act} {k : List Item} {cs : List Frame} {ops : Array Oper} {i : Nat} {rest : List Nat} {o : Oper}
theorem stepG_ld {t : TypeId} {x : Tmp} {B off : Nat} {v : Value} (ho : ops[i]? = some o) (hw : Region.wanted o (yielded ops a.tmps) = true) (hk : b.kind ≠ .early) (hop : o.op = .load t (.tmp x))
    (hsz : ∀ w, Sem.run P (Go.sizeOf t) w = .ok 1 w) (hag : ∀ w, Sem.run P (isAgg t) w = .ok false w) (hq : (P.funcs[b.fn]?).any (·.norace) = false) (hx : a.eval (.tmp x) = .pointer (some ⟨B, off, none⟩)) (hc : w.cell? ⟨B, off, none⟩ = some v) :
    stepG P main (G (b.at a (.inRegion ops (i :: rest) :: k)) cs) w = .go (G (b.at (a.put o.dst v) (.inRegion ops rest :: k)) cs) w #[⟨.cell ⟨B, off, none⟩, false, false⟩] := by
  have hr : (execOp a.eval o).run P w = .ok (.value v) w := by
    unfold execOp
    simp only [hop, hx]
    simp [go_sem, hc, hsz, hag]
  have he : (execOp a.eval o).events P w #[] = #[⟨.cell ⟨B, off, none⟩, false, false⟩] := by
    unfold execOp
    simp only [hop, hx]
    simp [go_sem, hc, hsz, hag]
  rw [stepG_value ho hw hk hr]
  unfold listed
  rw [he, seen_eq hq (by simp)]
theorem stepG_ix {t e : TypeId} {x y : Tmp} {B off n c : Nat} {z : Int} (ho : ops[i]? = some o) (hw : Region.wanted o (yielded ops a.tmps) = true) (hk : b.kind ≠ .early) (hop : o.op = .indexAddr t (.tmp x) (.tmp y))
    (hu : P.underlying t = some (.slice e)) (hsz : ∀ w, Sem.run P (Go.sizeOf e) w = .ok 1 w) (hx : a.eval (.tmp x) = .slice (some ⟨B, off, none⟩) n c) (hy : a.eval (.tmp y) = .int .i64 z) (h0 : 0 ≤ z) (hn : z < n) :
    stepG P main (G (b.at a (.inRegion ops (i :: rest) :: k)) cs) w = .go (G (b.at (a.put o.dst (.pointer (some ⟨B, off + z.toNat, none⟩))) (.inRegion ops rest :: k)) cs) w #[] := by
  have hr : (execOp a.eval o).run P w = .ok (.value (.pointer (some ⟨B, off + z.toNat, none⟩))) w := by
    unfold execOp
    simp only [hop, hx, hy]
    simp [go_sem, hu, hsz, h0, hn]
  have he : (execOp a.eval o).events P w #[] = #[] := by
    unfold execOp
    simp only [hop, hx, hy]
    simp [go_sem, hu, hsz, h0, hn]
  rw [stepG_value ho hw hk hr]
  unfold listed
  rw [he, seen_none]
end
end Go.Proofs.YtdjoodbidcncaaaGreatDoor.AW

/- A worker of impl.each: its body, whatever order is drawn. -/
namespace Go.Proofs.YtdjoodbidcncaaaGreatDoor.AW
open Go Go.Conc Go.ConcN Go.RowKit Go.Conc.Lib Go.ConcR.Gen Go.ConcN.Gen
open Go.ConcR (KK wgBlock WgAt stA smA rd wr mk Payload Aside2 DC0 Bk g_of_ofEvents)
def _root_.Go.Code.opsOf (id : Nat) : Code → Array Oper
  | .region i ops _ => if i = id then ops else #[]
  | .seq a b => if (Code.opsOf id a).isEmpty then Code.opsOf id b else Code.opsOf id a
  | _ => #[]
noncomputable def eBody : Code := (Tryz.f126.body).getD .skip
noncomputable def eOps : Array Oper := eBody.opsOf 1
noncomputable def eOp (i : Nat) : Oper := eOps[i]?.getD default
theorem eBody_eq : eBody = .seq (.region 0 (eBody.opsOf 0) false) (.region 1 eOps true) := by rfl
theorem eOps_size : eOps.size = 14 := by rfl
noncomputable def needs (i k : Nat) : Bool := (eOp i).after.toList.any fun e => Region.binds .any e && e.on == k
theorem needs_out {i k : Nat} (h : needs i k = true) {S : Nat → Bool} (hS : ∀ e ∈ (eOp i).after, Region.binds .any e = true → S e.on = true) : S k = true := by
  unfold needs at h
  obtain ⟨e, he, h⟩ := List.any_eq_true.1 h
  simp only [Bool.and_eq_true, beq_iff_eq] at h
  obtain ⟨h1, rfl⟩ := h
  exact hS e (Array.mem_toList_iff.1 he) h1
theorem eTab : OpsTab eOps eOp := by
  refine ⟨fun i hi => by unfold eOp; rw [Array.getElem?_eq_getElem hi]; rfl, ?_⟩
  have h : (List.range eOps.size).all (fun i => (eOp i).after.toList.all fun e => !Region.binds .any e || decide (e.on < i)) = true := by kernel_rfl
  intro i hi e he hb
  have h1 := List.all_eq_true.1 h i (List.mem_range.2 hi)
  have h2 := List.all_eq_true.1 h1 e (Array.mem_toList_iff.2 he)
  simpa [hb] using h2
def eVal (p : Ph) (q : WP) (j : Nat) : Nat → Value
  | 0 => .slice (some ⟨p.C, 0, none⟩) p.n p.n
  | 1 | 4 | 8 => .int .i64 j
  | 2 => .func (.func q.mkf) #[] #[]
  | 3 => .slice (some ⟨q.ra, q.oa, none⟩) p.n q.ca
  | 5 => .pointer (some ⟨q.ra, q.oa + j, none⟩)
  | 6 => .int .i64 (q.xs j)
  | 7 => .slice (some ⟨q.rb, q.ob, none⟩) p.n q.cb
  | 9 => .pointer (some ⟨q.rb, q.ob + j, none⟩)
  | 10 => .int .i64 (q.ys j)
  | 11 => .int .i64 (q.zs j)
  | 12 => .pointer (some ⟨p.C, 0 + j, none⟩)
  | _ => undef
def eDone (p : Ph) : Deferred := dcall 127 #[.pointer (some ⟨p.Wg, 0, none⟩)]
structure ESt (p : Ph) (q : WP) (j : Nat) (S : Nat → Bool) (a : Act) (w : World) : Prop where
  df : a.defers = [eDone p]
  sz : a.tmps.size = 19
  t1 : a.tmps.getD 1 undef = .pointer (some ⟨q.Bf, 0, none⟩)
  t2 : a.tmps.getD 2 undef = .pointer (some ⟨q.Ba, 0, none⟩)
  t3 : a.tmps.getD 3 undef = .pointer (some ⟨p.Lw j, 0, none⟩)
  t4 : a.tmps.getD 4 undef = .pointer (some ⟨q.Bb, 0, none⟩)
  t5 : a.tmps.getD 5 undef = .pointer (some ⟨q.Bo, 0, none⟩)
  val : ∀ i, i < 13 → S i = true → a.tmps.getD (i + 6) undef = eVal p q j i
  wk : WK p q j w
  has : S 13 = true → Has p.C j (.int .i64 (q.zs j)) w
section
variable {p : Ph} {q : WP} {j : Nat} {S : Nat → Bool} {a : Act} {w w' : World}
theorem put_same {a : Act} {t : Nat} {v : Value} (h : t < a.tmps.size) : (a.put (some t) v).tmps.getD t undef = v := by simp [Act.put, Array.getD_eq_getD_getElem?, h]
theorem put_other {a : Act} {t x : Nat} {v : Value} (h : x ≠ t) : (a.put (some t) v).tmps.getD x undef = a.tmps.getD x undef := by simp [Act.put, Array.getD_eq_getD_getElem?, Array.getElem?_setIfInBounds_ne (Ne.symm h)]
theorem ESt.put (h : ESt p q j S a w) {i : Nat} (hi : i < 13) {v : Value} (hv : v = eVal p q j i) (hw : WK p q j w') (hh : S 13 = true → Has p.C j (.int .i64 (q.zs j)) w') : ESt p q j (fun x => if x = i then true else S x) (a.put (some (i + 6)) v) w' := by
  subst hv
  refine ⟨h.df, by simp [Act.put, h.sz], ?_, ?_, ?_, ?_, ?_, fun k hk hS => ?_, hw, fun h13 => hh ?_⟩
  · rw [put_other (by omega)]; exact h.t1
  · rw [put_other (by omega)]; exact h.t2
  · rw [put_other (by omega)]; exact h.t3
  · rw [put_other (by omega)]; exact h.t4
  · rw [put_other (by omega)]; exact h.t5
  · by_cases e : k = i
    · subst e; rw [put_same (by rw [h.sz]; omega)]
    · rw [put_other (by omega)]
      exact h.val k hk (by simpa [e] using hS)
  · simpa [show ¬ (13 = i) by omega] using h13
/-- a function that a worker may call: it touches nothing -/
def WFn (P : Program) (f : FuncId) (x y z : Int) : Prop :=
  (∃ fn, P.funcs[f]? = some fn ∧ (fn.name == "runtime.NumGoroutine") = false ∧ fn.body.isSome = true) ∧
  ∀ (R : World → World → Prop) (D : World → World → Array Event → Prop) (Stop : Goroutine → World → Prop), (∀ w, D w w #[]) → (∀ w, R w w) → (∀ a b c, R a b → R b c → R a c) → ∀ (c : Frame) (cs : List Frame) (w : World),
    Wt P R D Stop (G (c.finish (.int .i64 z)) cs) w → Wt P R D Stop (G (Frame.enter P f #[.int .i64 x, .int .i64 y] .normal) (c :: cs)) w
theorem loudE : (Tryz.prog.funcs[(baseD 126).fn]?).any (·.norace) = false := by kernel_rfl
variable {Stop : Goroutine → World → Prop} {k : List Item} {cs : List Frame} {rest : List Nat}
abbrev eG (a : Act) (it : Item) (k : List Item) (cs : List Frame) : Goroutine := G ((baseD 126).at a (it :: k)) cs
theorem eLoad (O : p.Ok) (hs : WSep p q) (h : ESt p q j S a w) {i t : Nat} {x : Tmp} {B off : Nat} (hi : i < 13) (hop : (eOp i).op = .load t (.tmp x)) (hd : (eOp i).dst = some (i + 6)) (hg : (eOp i).guard = none) (hsz : ∀ w, Sem.run Tryz.prog (Go.sizeOf t) w = .ok 1 w) (hag : ∀ w, Sem.run Tryz.prog (isAgg t) w = .ok false w)
    (hx : a.tmps.getD x undef = .pointer (some ⟨B, off, none⟩)) (hc : ∀ w, WK p q j w → w.cell? ⟨B, off, none⟩ = some (eVal p q j i)) (hr : q.ro B ∨ (⟨B, off, none⟩ : Addr) = ⟨p.Lw j, 0, none⟩)
    (next : ∀ a' w', ESt p q j (fun x => if x = i then true else S x) a' w' → Wt Tryz.prog (RWk p j) (DWk p j) Stop (eG a' (.inRegion eOps rest) k cs) w') : Wt Tryz.prog (RWk p j) (DWk p j) Stop (eG a (.inRegion eOps (i :: rest)) k cs) w := by
  refine Wt.step rfl fun w₁ h₁ => ?_
  have hw := h.wk.rely O hs h₁
  refine ⟨_, w₁, _, stepG_ld (eTab.hop i (by rw [eOps_size]; omega)) (by unfold Region.wanted; rw [hg]) (by k_ne) hop hsz hag loudE hx (hc w₁ hw), dwk_read hs (hc w₁ hw) hr, ?_⟩
  rw [hd]
  exact next _ _ (h.put hi rfl hw fun h13 => h₁.cell.trans (h.has h13))
theorem eIx (O : p.Ok) (hs : WSep p q) (h : ESt p q j S a w) {i : Nat} {x y : Tmp} {B off n c : Nat} (hi : i < 13) (hop : (eOp i).op = .indexAddr 23 (.tmp x) (.tmp y)) (hd : (eOp i).dst = some (i + 6)) (hg : (eOp i).guard = none)
    (hx : a.tmps.getD x undef = .slice (some ⟨B, off, none⟩) n c) (hy : a.tmps.getD y undef = .int .i64 j) (hn : j < n) (hv : eVal p q j i = .pointer (some ⟨B, off + j, none⟩))
    (next : ∀ a' w', ESt p q j (fun x => if x = i then true else S x) a' w' → Wt Tryz.prog (RWk p j) (DWk p j) Stop (eG a' (.inRegion eOps rest) k cs) w') : Wt Tryz.prog (RWk p j) (DWk p j) Stop (eG a (.inRegion eOps (i :: rest)) k cs) w := by
  refine Wt.step rfl fun w₁ h₁ => ?_
  have hw := h.wk.rely O hs h₁
  refine ⟨_, w₁, _, stepG_ix (eTab.hop i (by rw [eOps_size]; omega)) (by unfold Region.wanted; rw [hg]) (by k_ne) hop Tryz.underlying23 Tryz.sizeOf3 hx hy (by omega) (by omega), dwk_idle w₁, ?_⟩
  rw [hd]
  exact next _ _ (h.put hi (by rw [hv]; simp) hw fun h13 => h₁.cell.trans (h.has h13))
end
end Go.Proofs.YtdjoodbidcncaaaGreatDoor.AW

/- A worker of impl.each: from its birth to the group's Done. -/
namespace Go.Proofs.YtdjoodbidcncaaaGreatDoor.AW
open Go Go.Conc Go.ConcN Go.RowKit Go.Conc.Lib Go.ConcR.Gen Go.ConcN.Gen
open Go.ConcR (KK wgBlock WgAt stA smA rd wr mk Payload Aside2 DC0 Bk g_of_ofEvents)
section
variable {p : Ph} {q : WP} {j : Nat} {S : Nat → Bool} {a : Act} {w w' : World} {Stop : Goroutine → World → Prop} {k : List Item} {cs : List Frame} {rest : List Nat}
theorem eCall (O : p.Ok) (hs : WSep p q) (hf : WFn Tryz.prog q.mkf (q.xs j) (q.ys j) (q.zs j)) (h : ESt p q j S a w) (h2 : S 2 = true) (h6 : S 6 = true) (h10 : S 10 = true)
    (next : ∀ a' w', ESt p q j (fun x => if x = 11 then true else S x) a' w' → Wt Tryz.prog (RWk p j) (DWk p j) Stop (eG a' (.inRegion eOps rest) k cs) w') : Wt Tryz.prog (RWk p j) (DWk p j) Stop (eG a (.inRegion eOps (11 :: rest)) k cs) w := by
  refine Wt.step rfl fun w₁ h₁ => ?_
  have hw := h.wk.rely O hs h₁
  have e2 := h.val 2 (by omega) h2
  have e6 := h.val 6 (by omega) h6
  have e10 := h.val 10 (by omega) h10
  obtain ⟨⟨fn, f1, f2, f3⟩, hc⟩ := hf
  have hop : (eOp 11).op = .call { callee := .value (.tmp 8), args := #[.tmp 12, .tmp 16], argTypes := #[93, 93] } := by rfl
  have g2 : a.tmps[8]?.getD undef = .func (.func q.mkf) #[] #[] := by simpa [Array.getD_eq_getD_getElem?, eVal] using e2
  have g6 : a.tmps[12]?.getD undef = .int .i64 (q.xs j) := by simpa [Array.getD_eq_getD_getElem?, eVal] using e6
  have g10 : a.tmps[16]?.getD undef = .int .i64 (q.ys j) := by simpa [Array.getD_eq_getD_getElem?, eVal] using e10
  have f2' : ¬ fn.name = "runtime.NumGoroutine" := by simpa using f2
  have f3' : ¬ fn.body = none := by intro e; rw [e] at f3; cases f3
  have hr : (execOp a.eval (eOp 11)).run Tryz.prog w₁ = .ok (.enter q.mkf #[.int .i64 (q.xs j), .int .i64 (q.ys j)]) w₁ := by
    unfold execOp
    simp only [hop]
    simp [go_sem, g2, g6, g10, f1, f2', f3', callFunc]
  have he : (execOp a.eval (eOp 11)).events Tryz.prog w₁ #[] = #[] := by
    unfold execOp
    simp only [hop]
    simp [go_sem, g2, g6, g10, f1, f2', f3', callFunc]
  refine ⟨_, w₁, _, stepG_enter (eTab.hop 11 (by rw [eOps_size]; omega)) (by rfl) (by k_ne) hr, ?_, hc _ _ _ dwk_idle RW.refl RWk.tr _ _ _ ?_⟩
  · unfold listed
    rw [he, seen_none]
    exact dwk_idle w₁
  · rw [Frame.finish_at]
    have hd : (eOps[11]?.bind fun o => o.dst) = some (11 + 6) := by rfl
    rw [hd]
    exact next _ _ (h.put (by omega) rfl hw fun h13 => h₁.cell.trans (h.has h13))
theorem eStore (O : p.Ok) (hs : WSep p q) (hj : j < p.n) (h : ESt p q j S a w) (h11 : S 11 = true) (h12 : S 12 = true)
    (next : ∀ a' w', ESt p q j (fun x => if x = 13 then true else S x) a' w' → Wt Tryz.prog (RWk p j) (DWk p j) Stop (eG a' (.inRegion eOps rest) k cs) w') : Wt Tryz.prog (RWk p j) (DWk p j) Stop (eG a (.inRegion eOps (13 :: rest)) k cs) w := by
  refine Wt.step rfl fun w₁ h₁ => ?_
  have hw := h.wk.rely O hs h₁
  have e11 : a.eval (.tmp 17) = .int .i64 (q.zs j) := h.val 11 (by omega) h11
  have e12 : a.eval (.tmp 18) = .pointer (some ⟨p.C, j, none⟩) := (h.val 12 (by omega) h12).trans (by simp [eVal])
  have hop : (eOp 13).op = .store 3 (.tmp 18) (.tmp 17) := by rfl
  obtain ⟨arr, hp1, hp2⟩ := id hw.pay
  have hc : w₁.cell? ⟨p.C, j, none⟩ = some (arr[j]'(by omega)) := by simp [World.cell?, hp1, hp2, hj]
  have hz : w₁.frozen? ⟨p.C, j, none⟩ = false := by simp [World.frozen?, hp1]
  have hr : (execOp a.eval (eOp 13)).run Tryz.prog w₁ = .ok .skip (w₁.setCell ⟨p.C, j, none⟩ (.int .i64 (q.zs j))) := by
    unfold execOp
    simp only [hop, e11, e12]
    simp [go_sem, stored, hc, hz]
  have he : (execOp a.eval (eOp 13)).events Tryz.prog w₁ #[] = #[⟨.cell ⟨p.C, j, none⟩, true, false⟩] := by
    unfold execOp
    simp only [hop, e11, e12]
    simp [go_sem, storedEv, hc, hz]
  have hA := aside_setCell w₁ ⟨p.C, j, none⟩ (.int .i64 (q.zs j))
  have hb : (w₁.setCell ⟨p.C, j, none⟩ (.int .i64 (q.zs j))).heap[p.C]? = some (.cells (arr.setIfInBounds j (.int .i64 (q.zs j))) Payload.ety) := by
    rw [setCell_eq_setRow w₁ p.C j arr _ (0, 0) _ hp1, setRow_heap w₁ p.C _ _ _ _ hp1]
  have hAC : AsideCell p.C p.n j w₁ (w₁.setCell ⟨p.C, j, none⟩ (.int .i64 (q.zs j))) := ⟨hA.tape, hA.os, hA.output, hA.size, fun b hb' => hA.block b hb', fun _ => ⟨_, hb, by simpa using hp2⟩, fun i' hi' => by
    simp [World.cell?, hb, hp1, Array.getElem?_setIfInBounds_ne (Ne.symm hi')]⟩
  refine ⟨_, _, _, stepG_none (eTab.hop 13 (by rw [eOps_size]; omega)) (by rfl) (by k_ne) hr, ⟨hAC, ?_⟩, ?_⟩
  · unfold listed
    rw [he, seen_eq loudE (by simp)]
    intro e hm
    simp at hm
    subst hm
    refine ⟨⟨fun x hx => ?_, by simp, ?_⟩, by simp, by simp⟩
    · simp only [Go.ConcR.ofEvent_cell, MemAct.touch?, Option.some.injEq] at hx
      subst hx
      exact .inr ⟨.inl (.inl rfl), rfl⟩
    · show p.C < _
      rw [hA.size]
      exact cell_below hc
  · have ro : ∀ b, b ≠ p.C → ∀ o, (w₁.setCell ⟨p.C, j, none⟩ (.int .i64 (q.zs j))).cell? ⟨b, o, none⟩ = w₁.cell? ⟨b, o, none⟩ := fun b hb o => cell_of_block (hA.block b hb) o
    have rs : ∀ b, q.ro b → b ≠ p.C := fun b hb => (hs.sep b hb).2.2
    have hC := Nat.lt_of_lt_of_le O.hC (O.mono 0 j (Nat.zero_le _))
    have hw2 : WK p q j (w₁.setCell ⟨p.C, j, none⟩ (.int .i64 (q.zs j))) := ⟨(ro _ (rs _ (by simp [WP.ro])) _).trans hw.outv, (ro _ (by omega) _).trans hw.iv, (ro _ (rs _ (by simp [WP.ro])) _).trans hw.fv, (ro _ (rs _ (by simp [WP.ro])) _).trans hw.av, (ro _ (rs _ (by simp [WP.ro])) _).trans hw.bv,
      (ro _ (rs _ (by simp [WP.ro])) _).trans hw.xv, (ro _ (rs _ (by simp [WP.ro])) _).trans hw.yv, let ⟨st, sm, h⟩ := hw.live; ⟨st, sm, h.of_block (hA.block _ (Ne.symm O.hCW))⟩, hAC.pay hw.pay⟩
    refine next _ _ ⟨h.df, ?_, h.t1, h.t2, h.t3, h.t4, h.t5, fun i hi hS => h.val i hi (by simpa [show ¬ (i = 13) by omega] using hS), hw2, fun _ => ?_⟩
    · exact h.sz
    · simp [Has, World.cell?, hb, hp2, hj]
end
end Go.Proofs.YtdjoodbidcncaaaGreatDoor.AW

/- A worker of impl.each: whole. -/
namespace Go.Proofs.YtdjoodbidcncaaaGreatDoor.AW
open Go Go.Conc Go.ConcN Go.RowKit Go.Conc.Lib Go.ConcR.Gen Go.ConcN.Gen
open Go.ConcR (KK wgBlock WgAt stA smA rd wr mk Payload Aside2 DC0 Bk g_of_ofEvents)
noncomputable def eBot : Frame := { (default : Frame) with fn := Tryz.prog.funcs.size, defers := [], mode := .panicking [goexitEntry] }
def eBorn (p : Ph) (q : WP) (j : Nat) : Deferred := { target := .fn (.func 126) #[.pointer (some ⟨p.Wg, 0, none⟩), .pointer (some ⟨q.Bf, 0, none⟩), .pointer (some ⟨q.Ba, 0, none⟩), .pointer (some ⟨p.Lw j, 0, none⟩), .pointer (some ⟨q.Bb, 0, none⟩), .pointer (some ⟨q.Bo, 0, none⟩)], args := #[] }
def eAct (p : Ph) (q : WP) (j : Nat) (d : List Deferred) : Act := ⟨#[.pointer (some ⟨p.Wg, 0, none⟩), .pointer (some ⟨q.Bf, 0, none⟩), .pointer (some ⟨q.Ba, 0, none⟩), .pointer (some ⟨p.Lw j, 0, none⟩), .pointer (some ⟨q.Bb, 0, none⟩), .pointer (some ⟨q.Bo, 0, none⟩), undef, undef, undef, undef, undef, undef, undef, undef, undef, undef, undef, undef, undef], d⟩
theorem eBorn_step (p : Ph) (q : WP) (j : Nat) (w : World) : stepG Tryz.prog false (born Tryz.prog (eBorn p q j)) w = .go (G ((baseD 126).at (eAct p q j []) [.code eBody]) [eBot]) w #[] := by
  simp [born, eBorn, stepG, unwind, callDeferred, invoke, callFunc, Tryz.func126, Tryz.f126, seen, GStep.after, G, Frame.enter, Frame.at, baseD, eBot, eBody, eAct]
theorem eQuits (T : Array Value) : QuitsD Tryz.prog 2 0 (G { (baseD 126).at ⟨T, []⟩ [] with mode := .returning } [eBot]) := by
  refine QuitsD.ctl (g' := G eBot []) rfl (fun w => ?_) ?_
  · simp [G, stepG, unwind, doReturn, results, Frame.at, baseD, eBot, Tryz.func126, Tryz.f126, seen, GStep.after, goexitEntry]
  refine QuitsD.ctl (g' := { G eBot [] with status := .finished }) rfl (fun w => ?_) ⟨rfl, rfl⟩
  simp [G, stepG, unwind, eBot, goexitEntry, Frame.catches]
  rfl
section
variable {p : Ph} {q : WP} {j : Nat} {S : Nat → Bool} {a : Act} {w w' : World} {Stop : Goroutine → World → Prop} {k : List Item} {cs : List Frame} {rest : List Nat}
theorem eStep (O : p.Ok) (hs : WSep p q) (hj : j < p.n) (hf : WFn Tryz.prog q.mkf (q.xs j) (q.ys j) (q.zs j)) {i : Nat} (hi : i < eOps.size) (hed : ∀ e ∈ (eOp i).after, Region.binds .any e = true → S e.on = true) (h : ESt p q j S a w)
    (next : ∀ a' w', ESt p q j (fun x => if x = i then true else S x) a' w' → Wt Tryz.prog (RWk p j) (DWk p j) Stop (eG a' (.inRegion eOps rest) k cs) w') : Wt Tryz.prog (RWk p j) (DWk p j) Stop (eG a (.inRegion eOps (i :: rest)) k cs) w := by
  have nd : ∀ k, needs i k = true → S k = true := fun k hk => needs_out hk hed
  clear hed
  rw [eOps_size] at hi
  rcases (by omega : i = 0 ∨ i = 1 ∨ i = 2 ∨ i = 3 ∨ i = 4 ∨ i = 5 ∨ i = 6 ∨ i = 7 ∨ i = 8 ∨ i = 9 ∨ i = 10 ∨ i = 11 ∨ i = 12 ∨ i = 13) with rfl | rfl | rfl | rfl | rfl | rfl | rfl | rfl | rfl | rfl | rfl | rfl | rfl | rfl
  · exact eLoad O hs h (x := 5) (by omega) rfl rfl rfl Tryz.sizeOf23 Tryz.isAgg23 h.t5 (fun w h => h.outv) (.inl (by simp [WP.ro])) next
  · exact eLoad O hs h (x := 3) (by omega) rfl rfl rfl Tryz.sizeOf3 Tryz.isAgg3 h.t3 (fun w h => h.iv) (.inr rfl) next
  · exact eLoad O hs h (x := 1) (by omega) rfl rfl rfl Tryz.sizeOf91 Tryz.isAgg91 h.t1 (fun w h => h.fv) (.inl (by simp [WP.ro])) next
  · exact eLoad O hs h (x := 2) (by omega) rfl rfl rfl Tryz.sizeOf23 Tryz.isAgg23 h.t2 (fun w h => h.av) (.inl (by simp [WP.ro])) next
  · exact eLoad O hs h (x := 3) (by omega) rfl rfl rfl Tryz.sizeOf3 Tryz.isAgg3 h.t3 (fun w h => h.iv) (.inr rfl) next
  · exact eIx O hs h (x := 9) (y := 10) (by omega) rfl rfl rfl (h.val 3 (by omega) (nd 3 rfl)) (h.val 4 (by omega) (nd 4 rfl)) hj rfl next
  · exact eLoad O hs h (x := 11) (by omega) rfl rfl rfl Tryz.sizeOf3 Tryz.isAgg3 (h.val 5 (by omega) (nd 5 rfl)) (fun w h => h.xv) (.inl (by simp [WP.ro])) next
  · exact eLoad O hs h (x := 4) (by omega) rfl rfl rfl Tryz.sizeOf23 Tryz.isAgg23 h.t4 (fun w h => h.bv) (.inl (by simp [WP.ro])) next
  · exact eLoad O hs h (x := 3) (by omega) rfl rfl rfl Tryz.sizeOf3 Tryz.isAgg3 h.t3 (fun w h => h.iv) (.inr rfl) next
  · exact eIx O hs h (x := 13) (y := 14) (by omega) rfl rfl rfl (h.val 7 (by omega) (nd 7 rfl)) (h.val 8 (by omega) (nd 8 rfl)) hj rfl next
  · exact eLoad O hs h (x := 15) (by omega) rfl rfl rfl Tryz.sizeOf3 Tryz.isAgg3 (h.val 9 (by omega) (nd 9 rfl)) (fun w h => h.yv) (.inl (by simp [WP.ro])) next
  · exact eCall O hs hf h (nd 2 rfl) (nd 6 rfl) (nd 10 rfl) next
  · exact eIx O hs h (x := 6) (y := 7) (by omega) rfl rfl rfl (h.val 0 (by omega) (nd 0 rfl)) (h.val 1 (by omega) (nd 1 rfl)) hj rfl next
  · exact eStore O hs hj h (nd 11 rfl) (nd 12 rfl) next
/-- ████ a worker's whole life, to the group's release ████ -/
theorem eWorks (O : p.Ok) (hs : WSep p q) (hty : p.ty = link.tWg) (hm : Tryz.prog.follows .mixedOrders = true) (hj : j < p.n) (hf : WFn Tryz.prog q.mkf (q.xs j) (q.ys j) (q.zs j)) (hK : WK p q j w) :
    Wt Tryz.prog (RWk p j) (DWk p j) (AtR0 Tryz.prog p.ty p.Wg p.C p.n (p.Lw (j + 1)) (j + 1) (.int .i64 (q.zs j))) (born Tryz.prog (eBorn p q j)) w := by
  refine Wt.quiet dwk_idle RWk.tr rfl (fun w₁ => eBorn_step p q j w₁) ?_
  rw [eBody_eq]
  refine Wt.quiet dwk_idle RWk.tr rfl (fun w₁ => stepG_seq) ?_
  refine Wt.quiet dwk_idle RWk.tr rfl (fun w₁ => stepG_region) ?_
  have e0 : List.range (eBody.opsOf 0).size = [0] := by rfl
  rw [e0]
  refine Wt.quiet (g' := G ((baseD 126).at (eAct p q j [eDone p]) [.inRegion (eBody.opsOf 0) [], .code (.region 1 eOps true)]) [eBot]) dwk_idle RWk.tr rfl (fun w₁ => ?_) ?_
  · rw [stepG_defer rfl rfl (by k_ne) rfl]
    have e1 : Array.map (eAct p q j []).eval #[Operand.tmp 0] = #[.pointer (some ⟨p.Wg, 0, none⟩)] := by simp [eAct, Act.eval]
    rw [e1]
    rfl
  refine Wt.quiet dwk_idle RWk.tr rfl (fun w₁ => stepG_region_end) ?_
  refine wt_region hm (fun w => ⟨⟨rfl, rfl, rfl, rfl, fun _ _ => rfl, id, fun _ _ => rfl⟩, fun e he => by simp at he⟩) eTab (ESt p q j) (fun w₁ h₁ => ?_) (fun S i a w rest hi _ hed h next => eStep O hs hj hf hi hed h next) fun a w h => ?_
  · refine ⟨rfl, rfl, rfl, rfl, rfl, rfl, rfl, fun i hi hS => ?_, (hK.rely O hs h₁).rely O hs (RW.at w₁ _), fun hS => ?_⟩
    · rw [eOps_size] at hS; simp at hS; omega
    · rw [eOps_size] at hS; simp at hS
  · refine Wt.quiet dwk_idle RWk.tr rfl (fun w₁ => stepG_region_end) ?_
    refine Wt.quiet dwk_idle RWk.tr rfl (fun w₁ => stepG_end) ?_
    refine Wt.quiet dwk_idle RWk.tr rfl (fun w₁ => stepG_unwind_enter h.df wgLib.f_done (nm_done link) rfl) ?_
    exact doneWt wgLib hty rfl (eQuits _) w h.wk.live (h.has rfl)
end
end Go.Proofs.YtdjoodbidcncaaaGreatDoor.AW

/- What the workers of impl.each call. -/
namespace Go.Proofs.YtdjoodbidcncaaaGreatDoor.AW
open Go Go.Conc Go.ConcN Go.RowKit Go.Conc.Lib Go.ConcR.Gen Go.ConcN.Gen
open Go.ConcR (Payload DC0)
theorem Wt.of_dc0 {P : Program} {R : World → World → Prop} {D : World → World → Array Event → Prop} {Stop : Goroutine → World → Prop} (hi : ∀ w, D w w #[]) (rf : ∀ w, R w w) {g : Goroutine} {w : World} (h : Wt P R DC0 (Wt P R D Stop) g w) : Wt P R D Stop g w := by
  obtain ⟨t, h⟩ := h
  induction t generalizing g w with
  | leaf => exact h w (rf w)
  | node f ih =>
    refine Wt.step h.1 fun w₁ h₁ => ?_
    obtain ⟨g', w', es, e1, ⟨rfl, rfl⟩, e3⟩ := h.2 w₁ h₁
    exact ⟨g', w', _, e1, hi _, ih _ e3⟩
theorem wtr {P : Program} {R : World → World → Prop} {D : World → World → Array Event → Prop} {Stop : Goroutine → World → Prop} (tr : ∀ a b c, R a b → R b c → R a c) {g : Goroutine} {w w₁ : World} (h : Wt P R D Stop g w) (r : R w w₁) : Wt P R D Stop g w₁ := ⟨_, h.choose_spec.rely tr r⟩
set_option maxRecDepth 100000 in
theorem wfn_plus (x y : Int) : WFn Tryz.prog 73 x y ((IntKind.i64.wrap ((IntKind.i64.wrap (x + y)).tmod 31 + 31)).tmod 31) := by
  refine ⟨⟨_, Tryz.func73, by kernel_rfl, by kernel_rfl⟩, fun R D Stop hi rf tr c cs w hF => ?_⟩
  have rl : ∀ {w w₁ : World}, Wt Tryz.prog R D Stop (G (c.finish (.int .i64 ((IntKind.i64.wrap ((IntKind.i64.wrap (x + y)).tmod 31 + 31)).tmod 31))) cs) w → R w w₁ → Wt Tryz.prog R D Stop (G (c.finish (.int .i64 ((IntKind.i64.wrap ((IntKind.i64.wrap (x + y)).tmod 31 + 31)).tmod 31))) cs) w₁ := fun h r => wtr tr h r
  refine Wt.of_dc0 hi rf ?_
  rw [enter_at _ Tryz.func73 rfl]
  walk_nrmf Tryz.f73
  ((refine Wt.go rfl (fun _ h₁ => ?_); replace hF := rl hF h₁; clear h₁; rw [stepG_seq]; simp only [goes_go]; refine ⟨by (refine dc0_none ?_; intro e he; simp at he), ?_⟩); (refine Wt.go rfl (fun _ h₁ => ?_); replace hF := rl hF h₁; clear h₁; rw [stepG_region]; simp only [goes_go, List.size_toArray, List.length_cons, List.length_nil, Nat.reduceAdd, Nat.zero_add, List.range, List.range.loop]; refine ⟨by (refine dc0_none ?_; intro e he; simp at he), ?_⟩); (refine Wt.go rfl (fun _ h₁ => ?_); replace hF := rl hF h₁; clear h₁; refine goes_oper_k rfl rfl (by k_ne) (fun K hK => ?_); go_simp; refine hK _ _ ⟨?_, ?_⟩; (· (refine dc0_none ?_; intro e he; have hm := mem_listed he; simp [go_sem, *] at hm)); clear hK K; (try w_num)); (refine Wt.go rfl (fun _ h₁ => ?_); replace hF := rl hF h₁; clear h₁; rw [stepG_region_end]; simp only [goes_go]; refine ⟨by (refine dc0_none ?_; intro e he; simp at he), ?_⟩); (refine Wt.go rfl (fun _ h₁ => ?_); replace hF := rl hF h₁; clear h₁; rw [stepG_seq]; simp only [goes_go]; refine ⟨by (refine dc0_none ?_; intro e he; simp at he), ?_⟩); (refine Wt.go rfl (fun _ h₁ => ?_); replace hF := rl hF h₁; clear h₁; rw [stepG_region]; simp only [goes_go, List.size_toArray, List.length_cons, List.length_nil, Nat.reduceAdd, Nat.zero_add, List.range, List.range.loop]; refine ⟨by (refine dc0_none ?_; intro e he; simp at he), ?_⟩); (refine Wt.go rfl (fun _ h₁ => ?_); replace hF := rl hF h₁; clear h₁; refine goes_oper_k rfl rfl (by k_ne) (fun K hK => ?_); go_simp; refine hK _ _ ⟨?_, ?_⟩; (· (refine dc0_none ?_; intro e he; have hm := mem_listed he; simp [go_sem, *] at hm)); clear hK K; (try w_num)); (refine Wt.go rfl (fun _ h₁ => ?_); replace hF := rl hF h₁; clear h₁; refine goes_oper_k rfl rfl (by k_ne) (fun K hK => ?_); go_simp; refine hK _ _ ⟨?_, ?_⟩; (· (refine dc0_none ?_; intro e he; have hm := mem_listed he; simp [go_sem, *] at hm)); clear hK K; (try w_num)); (refine Wt.go rfl (fun _ h₁ => ?_); replace hF := rl hF h₁; clear h₁; refine goes_oper_k rfl rfl (by k_ne) (fun K hK => ?_); go_simp; refine hK _ _ ⟨?_, ?_⟩; (· (refine dc0_none ?_; intro e he; have hm := mem_listed he; simp [go_sem, *] at hm)); clear hK K; (try w_num)); (refine Wt.go rfl (fun _ h₁ => ?_); replace hF := rl hF h₁; clear h₁; refine goes_call rfl rfl (by k_ne) rfl Tryz.func129 (by kernel_rfl) rfl ⟨by (refine dc0_none ?_; intro e he; simp at he), ?_⟩; walk_nrmf Tryz.f129); (refine Wt.go rfl (fun _ h₁ => ?_); replace hF := rl hF h₁; clear h₁; rw [stepG_seq]; simp only [goes_go]; refine ⟨by (refine dc0_none ?_; intro e he; simp at he), ?_⟩); (refine Wt.go rfl (fun _ h₁ => ?_); replace hF := rl hF h₁; clear h₁; rw [stepG_region]; simp only [goes_go, List.size_toArray, List.length_cons, List.length_nil, Nat.reduceAdd, Nat.zero_add, List.range, List.range.loop]; refine ⟨by (refine dc0_none ?_; intro e he; simp at he), ?_⟩); (refine Wt.go rfl (fun _ h₁ => ?_); replace hF := rl hF h₁; clear h₁; refine goes_oper_k rfl rfl (by k_ne) (fun K hK => ?_); go_simp; refine hK _ _ ⟨?_, ?_⟩; (· (refine dc0_none ?_; intro e he; have hm := mem_listed he; simp [go_sem, *] at hm)); clear hK K; (try w_num)); (refine Wt.go rfl (fun _ h₁ => ?_); replace hF := rl hF h₁; clear h₁; rw [stepG_region_end]; simp only [goes_go]; refine ⟨by (refine dc0_none ?_; intro e he; simp at he), ?_⟩); (refine Wt.go rfl (fun _ h₁ => ?_); replace hF := rl hF h₁; clear h₁; rw [stepG_seq]; simp only [goes_go]; refine ⟨by (refine dc0_none ?_; intro e he; simp at he), ?_⟩); (refine Wt.go rfl (fun _ h₁ => ?_); replace hF := rl hF h₁; clear h₁; rw [stepG_region]; simp only [goes_go, List.size_toArray, List.length_cons, List.length_nil, Nat.reduceAdd, Nat.zero_add, List.range, List.range.loop]; refine ⟨by (refine dc0_none ?_; intro e he; simp at he), ?_⟩); (refine Wt.go rfl (fun _ h₁ => ?_); replace hF := rl hF h₁; clear h₁; refine goes_oper_k rfl rfl (by k_ne) (fun K hK => ?_); go_simp; refine hK _ _ ⟨?_, ?_⟩; (· (refine dc0_none ?_; intro e he; have hm := mem_listed he; simp [go_sem, *] at hm)); clear hK K; (try w_num)); (refine Wt.go rfl (fun _ h₁ => ?_); replace hF := rl hF h₁; clear h₁; refine goes_oper_k rfl rfl (by k_ne) (fun K hK => ?_); go_simp; refine hK _ _ ⟨?_, ?_⟩; (· (refine dc0_none ?_; intro e he; have hm := mem_listed he; simp [go_sem, *] at hm)); clear hK K; (try w_num)); (refine Wt.go rfl (fun _ h₁ => ?_); replace hF := rl hF h₁; clear h₁; refine goes_oper_k rfl rfl (by k_ne) (fun K hK => ?_); go_simp; refine hK _ _ ⟨?_, ?_⟩; (· (refine dc0_none ?_; intro e he; have hm := mem_listed he; simp [go_sem, *] at hm)); clear hK K; (try w_num)); (refine Wt.go rfl (fun _ h₁ => ?_); replace hF := rl hF h₁; clear h₁; refine goes_oper_k rfl rfl (by k_ne) (fun K hK => ?_); go_simp; refine hK _ _ ⟨?_, ?_⟩; (· (refine dc0_none ?_; intro e he; have hm := mem_listed he; simp [go_sem, *] at hm)); clear hK K; (try w_num)); (refine Wt.go rfl (fun _ h₁ => ?_); replace hF := rl hF h₁; clear h₁; refine goes_oper_k rfl rfl (by k_ne) (fun K hK => ?_); go_simp; refine hK _ _ ⟨?_, ?_⟩; (· (refine dc0_none ?_; intro e he; have hm := mem_listed he; simp [go_sem, *] at hm)); clear hK K; (try w_num)); (refine Wt.go rfl (fun _ h₁ => ?_); replace hF := rl hF h₁; clear h₁; rw [stepG_region_end]; simp only [goes_go]; refine ⟨by (refine dc0_none ?_; intro e he; simp at he), ?_⟩); (refine Wt.go rfl (fun _ h₁ => ?_); replace hF := rl hF h₁; clear h₁; rw [stepG_ret']; simp only [goes_go]; refine ⟨by (refine dc0_none ?_; intro e he; simp at he), ?_⟩); (refine Wt.go rfl (fun _ h₁ => ?_); replace hF := rl hF h₁; clear h₁; refine goes_leave1 rfl rfl Tryz.func129 rfl ⟨by (refine dc0_none ?_; intro e he; simp at he), ?_⟩; walk_nrm); (refine Wt.go rfl (fun _ h₁ => ?_); replace hF := rl hF h₁; clear h₁; refine goes_oper_k rfl rfl (by k_ne) (fun K hK => ?_); go_simp; refine hK _ _ ⟨?_, ?_⟩; (· (refine dc0_none ?_; intro e he; have hm := mem_listed he; simp [go_sem, *] at hm)); clear hK K; (try w_num)); (refine Wt.go rfl (fun _ h₁ => ?_); replace hF := rl hF h₁; clear h₁; rw [stepG_region_end]; simp only [goes_go]; refine ⟨by (refine dc0_none ?_; intro e he; simp at he), ?_⟩); (refine Wt.go rfl (fun _ h₁ => ?_); replace hF := rl hF h₁; clear h₁; rw [stepG_ret']; simp only [goes_go]; refine ⟨by (refine dc0_none ?_; intro e he; simp at he), ?_⟩))
  refine Wt.step rfl fun w₁ h₁ => ⟨_, w₁, _, stepG_leaveE (b := base 73) rfl rfl Tryz.func73 (by simp [results, Tryz.f73, Frame.at]; rfl), ⟨rfl, ?_⟩, ?_⟩
  · rw [events_results_tmp rfl, seen_none]
  replace hF := rl hF h₁
  clear h₁
  exact ⟨.leaf, fun w₁ h₁ => rl hF h₁⟩
end Go.Proofs.YtdjoodbidcncaaaGreatDoor.AW

/- impl.each: the phase of its workers; what stands in the world meanwhile. -/
namespace Go.Proofs.YtdjoodbidcncaaaGreatDoor.AW
open Go Go.Conc Go.ConcN Go.RowKit Go.Conc.Lib Go.ConcR.Gen Go.ConcN.Gen
open Go.ConcR (KK wgBlock WgAt stA smA rd wr mk Payload Aside2 DC0 Bk g_of_ofEvents)
set_option maxRecDepth 100000 in
theorem array39 (T : Array Value) (h : T.size = 39) : ∃ v0 v1 v2 v3 v4 v5 v6 v7 v8 v9 v10 v11 v12 v13 v14 v15 v16 v17 v18 v19 v20 v21 v22 v23 v24 v25 v26 v27 v28 v29 v30 v31 v32 v33 v34 v35 v36 v37 v38, T = #[v0, v1, v2, v3, v4, v5, v6, v7, v8, v9, v10, v11, v12, v13, v14, v15, v16, v17, v18, v19, v20, v21, v22, v23, v24, v25, v26, v27, v28, v29, v30, v31, v32, v33, v34, v35, v36, v37, v38] := by
  obtain ⟨l⟩ := T
  simp only [List.size_toArray] at h
  obtain _ | ⟨v0, l⟩ := l
  · simp at h
  obtain _ | ⟨v1, l⟩ := l
  · simp at h
  obtain _ | ⟨v2, l⟩ := l
  · simp at h
  obtain _ | ⟨v3, l⟩ := l
  · simp at h
  obtain _ | ⟨v4, l⟩ := l
  · simp at h
  obtain _ | ⟨v5, l⟩ := l
  · simp at h
  obtain _ | ⟨v6, l⟩ := l
  · simp at h
  obtain _ | ⟨v7, l⟩ := l
  · simp at h
  obtain _ | ⟨v8, l⟩ := l
  · simp at h
  obtain _ | ⟨v9, l⟩ := l
  · simp at h
  obtain _ | ⟨v10, l⟩ := l
  · simp at h
  obtain _ | ⟨v11, l⟩ := l
  · simp at h
  obtain _ | ⟨v12, l⟩ := l
  · simp at h
  obtain _ | ⟨v13, l⟩ := l
  · simp at h
  obtain _ | ⟨v14, l⟩ := l
  · simp at h
  obtain _ | ⟨v15, l⟩ := l
  · simp at h
  obtain _ | ⟨v16, l⟩ := l
  · simp at h
  obtain _ | ⟨v17, l⟩ := l
  · simp at h
  obtain _ | ⟨v18, l⟩ := l
  · simp at h
  obtain _ | ⟨v19, l⟩ := l
  · simp at h
  obtain _ | ⟨v20, l⟩ := l
  · simp at h
  obtain _ | ⟨v21, l⟩ := l
  · simp at h
  obtain _ | ⟨v22, l⟩ := l
  · simp at h
  obtain _ | ⟨v23, l⟩ := l
  · simp at h
  obtain _ | ⟨v24, l⟩ := l
  · simp at h
  obtain _ | ⟨v25, l⟩ := l
  · simp at h
  obtain _ | ⟨v26, l⟩ := l
  · simp at h
  obtain _ | ⟨v27, l⟩ := l
  · simp at h
  obtain _ | ⟨v28, l⟩ := l
  · simp at h
  obtain _ | ⟨v29, l⟩ := l
  · simp at h
  obtain _ | ⟨v30, l⟩ := l
  · simp at h
  obtain _ | ⟨v31, l⟩ := l
  · simp at h
  obtain _ | ⟨v32, l⟩ := l
  · simp at h
  obtain _ | ⟨v33, l⟩ := l
  · simp at h
  obtain _ | ⟨v34, l⟩ := l
  · simp at h
  obtain _ | ⟨v35, l⟩ := l
  · simp at h
  obtain _ | ⟨v36, l⟩ := l
  · simp at h
  obtain _ | ⟨v37, l⟩ := l
  · simp at h
  obtain _ | ⟨v38, l⟩ := l
  · simp at h
  obtain _ | ⟨v39, l⟩ := l
  · exact ⟨v0, v1, v2, v3, v4, v5, v6, v7, v8, v9, v10, v11, v12, v13, v14, v15, v16, v17, v18, v19, v20, v21, v22, v23, v24, v25, v26, v27, v28, v29, v30, v31, v32, v33, v34, v35, v36, v37, v38, rfl⟩
  · simp at h

abbrev eSh (S₀ : Nat → Prop) (N : Nat) : Nat → Prop := fun r => S₀ r ∨ r = N + 2
def ePh (S₀ : Nat → Prop) (q : WP) (N n c : Nat) : Ph := { ty := link.tWg, Wg := N + 2, C := N, n := n, c := c, Sh := shunOf (eSh S₀ N), Rd := fun l => ∃ a, l = .cell a ∧ q.ro a.block, val := fun k => .int .i64 (q.zs k), Lw := fun k => N + 3 + k }
/-- where the workers' things lie -/
structure ELie (S₀ : Nat → Prop) (q : WP) (N n : Nat) : Prop where
  sh : ∀ r, S₀ r → r < N
  ro : ∀ b, q.ro b → (b < N ∧ ¬ S₀ b) ∨ b = N + 1
  out : q.Bo = N + 1
  n : n < 2147483648
section
variable {S₀ : Nat → Prop} {q : WP} {N n c : Nat}
theorem ePh_ok (h : ELie S₀ q N n) (hc : 0 < c) : (ePh S₀ q N n c).Ok := by
  have hb : ∀ {k : Nat} {a : Addr}, (ePh S₀ q N n c).Own k (.cell a) → (a = ⟨N, k, none⟩ ∨ a = ⟨N + 3 + k, 0, none⟩) := fun {k a} ho => by
    rcases ho with e | e <;> cases e
    · exact .inl rfl
    · exact .inr rfl
  have hcell : ∀ {k : Nat} {l : Loc}, (ePh S₀ q N n c).Own k l → ∃ a, l = .cell a := fun {k l} ho => by
    rcases ho with rfl | rfl <;> exact ⟨_, rfl⟩
  refine ⟨⟨fun l ⟨a, e, ha⟩ => ⟨a, e, .inr ha⟩, fun k k' l h1 h2 => ?_, fun k l h1 h2 => ?_, fun k l h1 h2 => ?_, fun l h1 h2 => ?_, fun k l h1 => ?_, fun l ⟨a, e, _⟩ => by subst e; rfl⟩, fun a b hab => by simp only [ePh]; omega, by simp only [ePh]; omega, by simp only [ePh]; omega, by simp only [ePh]; omega, h.n, hc⟩
  · obtain ⟨a, rfl⟩ := hcell h1
    rcases hb h1 with rfl | rfl <;> rcases hb h2 with e | e <;> simp at e <;> omega
  · obtain ⟨a, rfl⟩ := hcell h1
    obtain ⟨a', e, hr⟩ := h2
    cases e
    have := h.ro _ hr
    rcases hb h1 with rfl | rfl <;> simp at this <;> omega
  · obtain ⟨a, rfl⟩ := hcell h1
    obtain ⟨a', e, hr⟩ := h2
    cases e
    have hs := fun r => h.sh r
    rcases hb h1 with rfl | rfl <;> rcases hr with hr | hr <;> simp at hr <;> first | omega | (have := hs _ hr; omega)
  · obtain ⟨a, rfl, hr⟩ := h1
    obtain ⟨a', e, hr'⟩ := h2
    cases e
    rcases h.ro _ hr with ⟨h1, h2⟩ | h1 <;> rcases hr' with h3 | h3
    · exact h2 h3
    · omega
    · have := h.sh _ h3; omega
    · omega
  · obtain ⟨a, rfl⟩ := hcell h1
    rfl
theorem eSep (h : ELie S₀ q N n) : WSep (ePh S₀ q N n c) q := by
  refine ⟨fun b hb => ?_, fun a ha => ⟨a, rfl, ha⟩, fun k => by simp only [ePh]; omega⟩
  have := h.ro b hb
  simp only [ePh]
  omega
/-- what the starter knows, j workers being started -/
structure EK (W : World) (q : WP) (N n j : Nat) (sa sb : Value) (w : World) : Prop where
  io : SameIO W w
  low : ∀ b, b < N → w.heap[b]? = W.heap[b]?
  size : w.heap.size = N + 3 + j
  outv : w.cell? ⟨N + 1, 0, none⟩ = some (.slice (some ⟨N, 0, none⟩) n n)
  fv : w.cell? ⟨q.Bf, 0, none⟩ = some (.func (.func q.mkf) #[] #[])
  av : w.cell? ⟨q.Ba, 0, none⟩ = some sa
  bv : w.cell? ⟨q.Bb, 0, none⟩ = some sb
  sa : 0 < n → sa = .slice (some ⟨q.ra, q.oa, none⟩) n q.ca
  sb : 0 < n → sb = .slice (some ⟨q.rb, q.ob, none⟩) n q.cb
  xv : ∀ k, k < n → w.cell? ⟨q.ra, q.oa + k, none⟩ = some (.int .i64 (q.xs k))
  yv : ∀ k, k < n → w.cell? ⟨q.rb, q.ob + k, none⟩ = some (.int .i64 (q.ys k))
  live : WgLive link.tWg (N + 2) w
theorem EK.turn {W : World} {j j' : Nat} {sa sb : Value} {w w' : World} (hl : ELie S₀ q N n) (h : EK W q N n j sa sb w) (hs : w'.heap.size = N + 3 + j') (hb : ∀ b, b < N + 2 → b ≠ N → w'.heap[b]? = w.heap[b]?) (hlive : WgLive link.tWg (N + 2) w') (hio : SameIO w w') : EK W q N n j' sa sb w' := by
  have ro : ∀ b, q.ro b → ∀ o, w'.cell? ⟨b, o, none⟩ = w.cell? ⟨b, o, none⟩ := fun b hr o => cell_of_block (hb b (by have := hl.ro b hr; omega) (by have := hl.ro b hr; omega)) o
  exact ⟨h.io.trans hio, fun b hlt => (hb b (by omega) (by omega)).trans (h.low b hlt), hs, (cell_of_block (hb _ (by omega) (by omega)) 0).trans h.outv, (ro _ (by simp [WP.ro]) _).trans h.fv, (ro _ (by simp [WP.ro]) _).trans h.av, (ro _ (by simp [WP.ro]) _).trans h.bv, h.sa, h.sb,
    fun k hk => (ro _ (by simp [WP.ro]) _).trans (h.xv k hk), fun k hk => (ro _ (by simp [WP.ro]) _).trans (h.yv k hk), hlive⟩
theorem EK.rely {W : World} {j : Nat} {sa sb : Value} {w w₁ : World} (hl : ELie S₀ q N n) (h : EK W q N n j sa sb w) (r : RC link.tWg (N + 2) N w w₁) : EK W q N n j sa sb w₁ :=
  h.turn hl (r.aside.size.trans h.size) (fun b h1 h2 => r.aside.block b h2 (by omega)) (r.live h.live) ⟨r.aside.os, r.aside.tape, r.aside.output⟩
end
end Go.Proofs.YtdjoodbidcncaaaGreatDoor.AW
