/- Channels with room, beside leavers. -/
import Derived.Test.YtdjoodbidcncaaaGreatDoorMAxL
import Derived.Conc.SmallLaws
import Derived.RangeFuncRecord
set_option linter.unusedVariables false
set_option linter.unusedSimpArgs false
namespace Go.Proofs.YtdjoodbidcncaaaGreatDoor.AW
open Go Go.Conc

theorem rep_ch {w : World} {E : Emb} {b : Nat} {u : Value} (h : RepA w E (.ch b) u) : E.U b ∧ ¬ E.gh b ∧ u = .chan (some (E.blk b)) := by cases h with | ch _ h1 h2 => exact ⟨h1, h2, rfl⟩
section
variable {P : Program} {ti : Nat → Option TI} {tok : ∀ t i, ti t = some i → TIok P t i} {gl : List (Nat × Value)} {o : Oper} {N : Nat} {T : Nat → AV} {H : Nat → Option Block}
/-- a walk beside leavers -/
abbrev cx (P : Program) (ti : Nat → Option TI) (tok : ∀ t i, ti t = some i → TIok P t i) (gl : List (Nat × Value)) : Ctx := ⟨P, ti, tok, company P gl, company_sound P gl⟩
theorem ch_make {nx : Nat} {K : Eff → Prop} {t e : TypeId} {dir : ChanDir} {s : Operand} (ho : o.op = .makeChan t s) (hu : P.underlying t = some (.chan dir e)) {i : TI} (hi : ti e = some i) (n : Nat) (hs : ev T s = iv .i64 n)
    (hn : (n : Int) ≤ 9223372036854775807) (hb : (i.bytes : Int) * n ≤ 2 ^ 48 - 112) (h : K ⟨.ch nx, [(nx, some (.ch n [] false))], [nx], []⟩) : CallVC (cx P ti tok gl) o N T H nx K := by
  have ms : s ∈ o.op.operands := by simp [ho, Op.operands]
  unfold CallVC
  refine ⟨_, loc_mk fun T' H' g1 _ E a w ht hh hf => ?_, rfl, h⟩
  have e1 := rep_sc (rep_at ht (g1 s ms) hs)
  have hnx : ¬ E.U nx := hf nx (by simp)
  obtain ⟨inf, f1, f2, f3, f4⟩ := (tok _ _ hi).run_typeInfo w
  have hb' : (inf.bytes : Int) * n ≤ 2 ^ 48 - 112 := by rw [f3]; exact hb
  have hr : (execOp a.eval o).run P w = .ok (.value (.chan (some w.heap.size))) { w with heap := w.heap.push (.chan n #[] false 0 0 false) } := by
    simp only [execOp, ho, e1]
    rw [Sem.run_bind, run_makeChan hu f4 .i64 n hn hb']; rfl
  have hev : (execOp a.eval o).events P w #[] = #[] := by
    simp only [execOp, ho, e1]
    rw [Sem.events_bind, run_makeChan hu f4 .i64 n hn hb', events_makeChan hu f4 .i64 n hn hb']; rfl
  have old : ∀ r, r < w.heap.size → ({ w with heap := w.heap.push (.chan n #[] false 0 0 false) } : World).heap[r]? = w.heap[r]? := fun r hr => push_old hr
  have hbl : (E.add nx w.heap.size 0).blk nx = w.heap.size := by simp [Emb.add]
  obtain ⟨g1, g2⟩ := hh.alloc (B := .ch n [] false) (s := 0) hnx (by simp) old ⟨rfl, rfl, rfl⟩ ⟨by simp [Emb.add], #[], 0, 0, false, by rw [hbl]; simp, rfl, by simp⟩
  refine ⟨_, _, E.add nx w.heap.size 0, .inl hr, ?_, g1, g2, fun b => by simp [Emb.add, or_comm], .nil hev⟩
  have := RepA.ch (w := { w with heap := w.heap.push (.chan n #[] false 0 0 false) }) (E := E.add nx w.heap.size 0) nx (.inl rfl) (by simp [Emb.add])
  rw [hbl] at this; exact this
/-- a channel's block is laid anew -/
theorem ch_store {E : Emb} {w w₁ : World} {b cap : Nat} {es : List CV} {shut : Bool} (hh : HInv E H w) (hB : H b = some (.ch cap es shut)) (hheap : w₁.heap = w.heap) (hio : SameIO w w₁) (hg : ¬ E.gh b) (buf' : Array Value) (es' : List CV) (shut' : Bool) (s r : Nat) (tm : Bool)
    (hs : buf'.size = es'.length) (hc : ∀ (k : Nat) (x : CV), es'[k]? = some x → RepC w E.pr x (buf'.getD k undef)) :
    HInv E (setH H b (some (.ch cap es' shut'))) (w₁.setChan (E.blk b) cap buf' shut' s r tm) ∧ Ext E.U E w E (w₁.setChan (E.blk b) cap buf' shut' s r tm) := by
  obtain ⟨hh1, hx1⟩ := hh.same hheap hio
  have hlt : E.blk b < w₁.heap.size := by rw [hheap]; exact hh.lt hB hg
  have hoth : ∀ k, k ≠ E.blk b → (w₁.setChan (E.blk b) cap buf' shut' s r tm).heap[k]? = w₁.heap[k]? := fun k hk => by
    simp [World.setChan, Array.getElem?_setIfInBounds_ne (Ne.symm hk)]
  have hpr : ∀ k, E.pr k → (w₁.setChan (E.blk b) cap buf' shut' s r tm).heap[k]? = w.heap[k]? := fun k hk => by
    rw [← hheap]; exact hoth k fun e => (hh.un b _ hB).2 hg (e ▸ hh.prfr k hk)
  obtain ⟨k1, k2⟩ := hh1.store (B' := .ch cap es' shut') (w' := w₁.setChan (E.blk b) cap buf' shut' s r tm) hB hg (by simp [World.setChan]) hoth ⟨rfl, rfl, rfl⟩
    ⟨hg, buf', s, r, tm, by simp [World.setChan, hlt], hs, fun k x hx => (hc k x hx).mono hpr fun _ h => h⟩
  exact ⟨k1, hx1.trans k2⟩
theorem ch_send {nx : Nat} {K : Eff → Prop} {ch x : Operand} (ho : o.op = .send ch x) {b cap : Nat} {es : List CV} (hc : ev T ch = .ch b) {c : CV} (hx : ev T x = .cv c) (hb : H b = some (.ch cap es false)) (hroom : es.length < cap)
    (h : K ⟨.any, [(b, some (.ch cap (es ++ [c]) false))], [], [b]⟩) : CallVC (cx P ti tok gl) o N T H nx K := by
  have mc : ch ∈ o.op.operands := by simp [ho, Op.operands]
  have mx : x ∈ o.op.operands := by simp [ho, Op.operands]
  unfold CallVC
  refine ⟨_, fun T' H' g1 g2 fn E a w S K' ht hh hok hf next => ?_, rfl, h⟩
  obtain ⟨hU, hg, e1⟩ := rep_ch (rep_at ht (g1 ch mc) hc)
  have e2 : RepC w E.pr c (a.eval x) := by
    have := rep_at ht (g1 x mx) hx
    generalize a.eval x = u at this
    cases this with | cv _ _ h => exact h
  have hB := (g2 b (by simp)).trans hb
  obtain ⟨_, buf, s, r, tm, hp, hs, hcx⟩ := hh.hp b _ hB
  show opJ P fn o a w S K'
  refine .inr (.inr fun w₁ hw₁ => ?_)
  obtain ⟨hheap, hio⟩ := (company_sound P gl).rel hw₁
  obtain ⟨k1, k2⟩ := ch_store (E := E) hh hB hheap hio hg (buf.push (a.eval x)) (es ++ [c]) false (s + 1) r tm (by simp [hs]) (fun k y hy => by
    rw [List.getElem?_append] at hy
    split at hy
    · rename_i hk
      have := hcx k y hy
      rwa [show (buf.push (a.eval x)).getD k undef = buf.getD k undef by
        simp only [Array.getD_eq_getD_getElem?]
        rw [Array.getElem?_push, if_neg (by omega)]]
    · rename_i hk
      have : k = es.length := by
        have := (List.getElem?_eq_some_iff.1 hy).1
        simp at this; omega
      subst this
      simp only [Nat.sub_self, List.getElem?_cons_zero, Option.some.injEq] at hy
      subst hy
      rwa [show (buf.push (a.eval x)).getD es.length undef = a.eval x by
        simp only [Array.getD_eq_getD_getElem?]
        rw [Array.getElem?_push, if_pos hs.symm]; rfl])
  refine ⟨#[scase (E.blk b) (a.eval x) (.tuple #[])], true, .send, undef, w₁.setChan (E.blk b) cap (buf.push (a.eval x)) false (s + 1) r tm, ?_, .inl ⟨_, _, _, cap, buf, s, r, tm, rfl, rfl, by rw [hheap]; exact hp, by omega, rfl, rfl⟩, ?_, ?_⟩
  · simp only [execOp, ho, e1]; rfl
  · intro e he
    have he := seen_sub e he
    simp only [execOp, ho] at he
    simp at he
  · exact next undef E _ S (.any _) k1 ((company_sound P gl).okExt hok k2) ((company P gl).leRefl _ _) k2 (fun b => by simp)
theorem ch_recv {nx : Nat} {K : Eff → Prop} {ct e : TypeId} {dir : ChanDir} {ch : Operand} {ok : Bool} (ho : o.op = .recv ct ch ok) (hu : P.underlying ct = some (.chan dir e)) {i : TI} (hi : ti e = some i) {b cap : Nat} {c : CV} {es : List CV} {shut : Bool} (hc : ev T ch = .ch b)
    (hb : H b = some (.ch cap (c :: es) shut)) (h : K ⟨(match ok with | true => .tup [.cv c, bv true] | false => .cv c), [(b, some (.ch cap es shut))], [], [b]⟩) : CallVC (cx P ti tok gl) o N T H nx K := by
  have mc : ch ∈ o.op.operands := by simp [ho, Op.operands]
  unfold CallVC
  refine ⟨_, fun T' H' g1 g2 fn E a w S K' ht hh hok hf next => ?_, rfl, h⟩
  obtain ⟨hU, hg, e1⟩ := rep_ch (rep_at ht (g1 ch mc) hc)
  have hB := (g2 b (by simp)).trans hb
  obtain ⟨_, buf, s, r, tm, hp, hs, hcx⟩ := hh.hp b _ hB
  have hs : buf.size = es.length + 1 := hs
  show opJ P fn o a w S K'
  refine .inr (.inr fun w₁ hw₁ => ?_)
  obtain ⟨hheap, hio⟩ := (company_sound P gl).rel hw₁
  obtain ⟨z0, hz0, hzo⟩ := (tok _ _ hi).run_zero w₁
  have h0 := hcx 0 c rfl
  obtain ⟨k1, k2⟩ := ch_store (E := E) hh hB hheap hio hg (buf.extract 1 buf.size) es shut s (r + 1) tm (by simp [hs]) (fun k y hy => by
    have := hcx (k + 1) y (by simpa using hy)
    have hk : k < es.length := (List.getElem?_eq_some_iff.1 hy).1
    rwa [show (buf.extract 1 buf.size).getD k undef = buf.getD (k + 1) undef by
      simp only [Array.getD_eq_getD_getElem?]
      rw [Array.getElem?_extract]
      rw [if_pos (by simp; omega), Nat.add_comm]])
  refine ⟨#[rcase (E.blk b) z0], true, .recv ok, recvd ok (buf.getD 0 undef) true, w₁.setChan (E.blk b) cap (buf.extract 1 buf.size) shut s (r + 1) tm, ?_, .inr (.inl ⟨ok, _, _, cap, buf, shut, s, r, tm, rfl, rfl, by rw [hheap]; exact hp, by omega, rfl, rfl⟩), ?_, ?_⟩
  · simp only [execOp, ho, e1]
    rw [Sem.run_bind, run_underlying hu]
    simp only [Result.andThen_ok]
    rw [Sem.run_bind, hz0]; rfl
  · intro ev he
    have he := seen_sub ev he
    simp only [execOp, ho] at he
    rcases mem_seq he (run_underlying hu w₁) with h0 | h0
    · simp [events_underlying] at h0
    rcases mem_seq h0 hz0 with h0 | h0
    · simp at h0
    · simp at h0
  · refine next _ E _ S ?_ k1 ((company_sound P gl).okExt hok k2) ((company P gl).leRefl _ _) k2 (fun b => by simp)
    have h0' : RepA (w₁.setChan (E.blk b) cap (buf.extract 1 buf.size) shut s (r + 1) tm) E (.cv c) (buf.getD 0 undef) := (RepA.cv c _ h0).mono (E := E) (fun k hk => k2.keep k (hh.prfr k hk)) (fun _ h => h) fun _ h => ⟨h, rfl, rfl, .rfl⟩
    cases ok
    · exact h0'
    · refine .tup _ _ rfl fun k y hy => ?_
      match k, hy with
      | 0, hy => simp only [List.getElem?_cons_zero, Option.some.injEq] at hy; subst hy; exact h0'
      | 1, hy => simp only [List.getElem?_cons_succ, List.getElem?_cons_zero, Option.some.injEq] at hy; subst hy; exact .cv _ _ (.sc _ rfl)
theorem ch_over {nx : Nat} {K : Eff → Prop} {ct e : TypeId} {dir : ChanDir} {ch : Operand} {ok : Bool} (ho : o.op = .recv ct ch ok) (hu : P.underlying ct = some (.chan dir e)) {i : TI} (hi : ti e = some i) {b cap : Nat} (hc : ev T ch = .ch b)
    (hb : H b = some (.ch cap [] true)) {v : AV} (hv : mkVar i.agg (zeroA i) = some v) (h : K ⟨(match ok with | true => .tup [v, bv false] | false => v), [], [], [b]⟩) : CallVC (cx P ti tok gl) o N T H nx K := by
  have mc : ch ∈ o.op.operands := by simp [ho, Op.operands]
  unfold CallVC
  refine ⟨_, fun T' H' g1 g2 fn E a w S K' ht hh hok hf next => ?_, rfl, h⟩
  obtain ⟨hU, hg, e1⟩ := rep_ch (rep_at ht (g1 ch mc) hc)
  have hB := (g2 b (by simp)).trans hb
  obtain ⟨_, buf, s, r, tm, hp, hs, hcx⟩ := hh.hp b _ hB
  have hs : buf = #[] := by simpa using hs
  subst hs
  show opJ P fn o a w S K'
  refine .inr (.inr fun w₁ hw₁ => ?_)
  obtain ⟨hheap, hio⟩ := (company_sound P gl).rel hw₁
  obtain ⟨z0, hz0, hzo⟩ := (tok _ _ hi).run_zero w₁
  obtain ⟨k1, k2⟩ := hh.same hheap hio
  refine ⟨#[rcase (E.blk b) z0], true, .recv ok, recvd ok z0 false, w₁, ?_, .inr (.inr ⟨ok, _, _, cap, s, r, tm, rfl, rfl, by rw [hheap]; exact hp, rfl, rfl⟩), ?_, ?_⟩
  · simp only [execOp, ho, e1]
    rw [Sem.run_bind, run_underlying hu]
    simp only [Result.andThen_ok]
    rw [Sem.run_bind, hz0]; rfl
  · intro ev he
    have he := seen_sub ev he
    simp only [execOp, ho] at he
    rcases mem_seq he (run_underlying hu w₁) with h0 | h0
    · simp [events_underlying] at h0
    rcases mem_seq h0 hz0 with h0 | h0
    · simp at h0
    · simp at h0
  · refine next _ E _ S ?_ k1 ((company_sound P gl).okExt hok k2) ((company P gl).leRefl _ _) k2 (fun b => by simp)
    have hz : RepA w₁ E v z0 := zero_rep hzo (tok _ _ hi).one hv
    cases ok
    · exact hz
    · refine .tup _ _ rfl fun k y hy => ?_
      match k, hy with
      | 0, hy => simp only [List.getElem?_cons_zero, Option.some.injEq] at hy; subst hy; exact hz
      | 1, hy => simp only [List.getElem?_cons_succ, List.getElem?_cons_zero, Option.some.injEq] at hy; subst hy; exact .cv _ _ (.sc _ rfl)
theorem ch_close {nx : Nat} {K : Eff → Prop} {x : Operand} {ats : Array TypeId} (ho : o.op = .call { callee := .builtin .close, args := #[x], argTypes := ats }) {b cap : Nat} {es : List CV} (hx : ev T x = .ch b) (hb : H b = some (.ch cap es false))
    (h : K ⟨.tup [], [(b, some (.ch cap es true))], [], [b]⟩) : CallVC (cx P ti tok gl) o N T H nx K := by
  have mx : x ∈ o.op.operands := by simp [ho, Op.operands, Call.operands]
  unfold CallVC
  refine ⟨_, loc_mk fun T' H' g1 g2 E a w ht hh hf => ?_, rfl, h⟩
  obtain ⟨hU, hg, e1⟩ := rep_ch (rep_at ht (g1 x mx) hx)
  have hB := (g2 b (by simp)).trans hb
  obtain ⟨_, buf, s, r, tm, hp, hs, hcx⟩ := hh.hp b _ hB
  obtain ⟨k1, k2⟩ := ch_store (E := E) hh hB rfl ⟨rfl, rfl, rfl⟩ hg buf es true s r tm hs hcx
  have hlt : E.blk b < w.heap.size := hh.lt hB hg
  refine ⟨.tuple #[], w.setChan (E.blk b) cap buf true s r tm, E, .inl ?_, .tup _ _ rfl (by simp), k1, k2, fun b => by simp, fun e he => ?_⟩
  · rw [run_builtin ho]
    simp only [builtin, List.map_toArray, List.map_cons, List.map_nil, e1]
    rw [Sem.run_bind, run_close_open _ _ hp]; rfl
  · rw [ev_builtin ho] at he
    simp only [builtin, List.map_toArray, List.map_cons, List.map_nil, e1] at he
    have he := mem_map' he
    rw [events_close_open _ _ hp] at he
    simp only [List.push_toArray, List.nil_append, List.cons_append, List.mem_toArray, List.mem_cons, List.not_mem_nil, or_false] at he
    have hlt' : E.blk b < (w.setChan (E.blk b) cap buf true s r tm).heap.size := by simpa [World.setChan] using hlt
    rcases he with rfl | rfl <;> exact .inl (.inr ⟨_, _, _, rfl, hlt'⟩)
end
end Go.Proofs.YtdjoodbidcncaaaGreatDoor.AW

/- Range over a function, beside leavers. -/
namespace Go.Proofs.YtdjoodbidcncaaaGreatDoor.AW
open Go Go.Conc

/-- a block of the machine's own: apart from all that the walk knows -/
structure Apt (r : Nat) (E : Emb) (w : World) : Prop where
  fr : E.fr r
  pr : ¬ E.pr r
  un : ∀ c, E.U c → ¬ E.gh c → E.blk c ≠ r
  lt : r < w.heap.size
theorem Apt.ext {r : Nat} {E E' : Emb} {w w' : World} {K : Nat → Prop} (h : Apt r E w) (x : Ext K E w E' w') : Apt r E' w' := by
  refine ⟨x.fr _ h.fr, fun hp => ?_, fun c hc hg e => ?_, Nat.lt_of_lt_of_le h.lt x.sz⟩
  · rcases x.pn _ hp with h1 | h1 | ⟨c, h1, h2, h3⟩
    · exact h.pr h1
    · have := h.lt; omega
    · exact h.un c h1 h2 h3.symm
  · rcases x.un c hc hg with h1 | ⟨d, h1, h2, h3⟩
    · have := h.lt; omega
    · exact h.un d h1 h2 (h3 ▸ e)
section
variable {P : Program} {gl : List (Nat × Value)} {N k : Nat} {E : Emb} {st : St} {a : Act} {w : World} {S : Sh}
theorem Inv.putObj {r : Nat} {o : Obj} (h : Inv (company P gl) N k E st a w S) (ha : Apt r E w) : Inv (company P gl) N k E st a (w.putObj r o) S := by
  have keep : ∀ x, x ≠ r → (w.putObj r o).heap[x]? = w.heap[x]? := fun x hx => World.putObj_heap_other hx
  have kp : ∀ x, E.pr x → (w.putObj r o).heap[x]? = w.heap[x]? := fun x hx => keep x fun e => ha.pr (e ▸ hx)
  refine ⟨⟨fun t => (h.t.tm t).mono kp (fun _ h => h) (fun _ h => ⟨h, rfl, rfl, .rfl⟩), h.t.sz, h.t.df⟩, ⟨fun b B hb => (h.h.hp b B hb).mono kp (fun _ h => h) (fun _ h => ⟨h, rfl, rfl, .rfl⟩) (h.h.un b B hb).1 (fun hg => keep _ (ha.un b (h.h.un b B hb).1 hg)), h.h.un, h.h.inj, h.h.prfr, fun x hx => by rw [World.putObj_size]; exact h.h.frlt x hx⟩, h.nx, h.k, ?_⟩
  obtain ⟨⟨S₀, e, hs⟩, hg⟩ := h.ok
  refine ⟨⟨S₀, e, ⟨hs.pr, hs.un, fun x hx => by rw [World.putObj_size]; exact hs.lt x hx, fun b hb hg => by rw [World.putObj_size]; exact hs.ul b hb hg⟩⟩, fun p hp => ?_⟩
  obtain ⟨g1, g2, g3⟩ := hg p hp
  exact ⟨g1, g2, (cellAt_congr (kp _ g1) _).trans g3⟩
/-- the heap grows; new blocks are the machine's own; more is shunned -/
theorem Inv.grow {w' : World} {S' : Sh} {F : Nat → Prop} (h : Inv (company P gl) N k E st a w S) (hk : ∀ r, r < w.heap.size → w'.heap[r]? = w.heap[r]?) (hsz : w.heap.size ≤ w'.heap.size) (hF : ∀ r, F r → w.heap.size ≤ r ∧ r < w'.heap.size)
    (hS : ∃ S₀, S' = shunOf S₀ ∧ ∀ r, S₀ r → r < w'.heap.size) (hle : (company P gl).le S w.heap.size S') : Inv (company P gl) N k { E with fr := fun r => E.fr r ∨ F r } st a w' S' := by
  have kp : ∀ x, E.pr x → w'.heap[x]? = w.heap[x]? := fun x hx => hk x (h.h.frlt x (h.h.prfr x hx))
  obtain ⟨⟨S₀, e, hs⟩, hg⟩ := h.ok
  obtain ⟨S₁, e1, h1⟩ := hS
  have old : ∀ r, S₁ r → S₀ r ∨ w.heap.size ≤ r := fun r hr => by
    rcases hle r (by rw [e1]; exact ⟨_, rfl, hr⟩) with h2 | h2
    · rw [e] at h2; obtain ⟨ad, e2, h3⟩ := h2; cases e2; exact .inl h3
    · exact .inr h2
  refine ⟨⟨fun t => (h.t.tm t).mono (E' := { E with fr := fun r => E.fr r ∨ F r }) kp (fun _ h => h) (fun _ h => ⟨h, rfl, rfl, .rfl⟩), h.t.sz, h.t.df⟩,
    ⟨fun b B hb => (h.h.hp b B hb).mono (E' := { E with fr := fun r => E.fr r ∨ F r }) kp (fun _ h => h) (fun _ h => ⟨h, rfl, rfl, .rfl⟩) (h.h.un b B hb).1 (fun hg => hk _ (h.h.lt hb hg)), fun b B hb => ⟨(h.h.un b B hb).1, fun hg hf => ?_⟩, h.h.inj, fun r hr => .inl (h.h.prfr r hr), fun r hr => ?_⟩, h.nx, h.k, ⟨⟨S₁, e1, ⟨fun r hr hs' => ?_, fun b hb hg hs' => ?_, h1, fun b hb hg => Nat.lt_of_lt_of_le (hs.ul b hb hg) hsz⟩⟩, fun p hp => ?_⟩⟩
  · rcases hf with hf | hf
    · exact (h.h.un b B hb).2 hg hf
    · exact absurd (hF _ hf).1 (Nat.not_le.2 (h.h.lt hb hg))
  · rcases hr with hr | hr
    · exact Nat.lt_of_lt_of_le (h.h.frlt r hr) hsz
    · exact (hF r hr).2
  · rcases old r hs' with h2 | h2
    · exact hs.pr r hr h2
    · have := h.h.frlt r (h.h.prfr r hr); omega
  · rcases old _ hs' with h2 | h2
    · exact hs.un b hb hg h2
    · exact absurd h2 (Nat.not_le.2 (hs.ul b hb hg))
  · obtain ⟨g1, g2, g3⟩ := hg p hp
    exact ⟨g1, .inl g2, (cellAt_congr (kp _ g1) _).trans g3⟩
end

/-- a call of yield: the round, to its end -/
def YieldE (P : Program) (l : Nat) (args : Array Value) (w : World) (S : Sh) (R : World → Sh → Prop) : Prop :=
  ∀ (Post : Value → World → Prop) (c : Frame) (cs : List Frame), (∀ w' S', R w' S' → Ends P Post S' (G (c.finish (.bool true)) cs) w') → ∀ w₁, AtRel w w₁ →
    ∃ f ts asg body, (Instr.yield l args).run P w₁ = .ok (.round l f ts asg body) w₁ ∧ (∀ e ∈ (Instr.yield l args).events P w₁ #[], EvL S w₁.heap.size e) ∧ Ends P Post S (G (Frame.round l f ts asg body .normal) (c :: cs)) w₁
theorem opsE_yield {P : Program} {g : FuncId} {Q : Exit → Act → World → Sh → Prop} {a : Act} {ops : Array Oper} {i : Nat} {rest : List Nat} {o : Oper} {w : World} {S : Sh} {l : Nat} {vs : Array Value} {R : World → Sh → Prop} (ho : ops[i]? = some o) (hw : Region.wanted o (yielded ops a.tmps) = true)
    (hrun : ∀ w₁, AtRel w w₁ → (execOp a.eval o).run P w₁ = (Instr.yield l vs).run P w₁ ∧ (execOp a.eval o).events P w₁ #[] = (Instr.yield l vs).events P w₁ #[]) (hy : YieldE P l vs w S R) (hnext : ∀ w' S', R w' S' → opsE P g ops rest Q (a.put o.dst (.bool true)) w' S') : opsE P g ops (i :: rest) Q a w S := by
  intro Post b k cs hb hk hc
  subst hb
  refine Ends.step rfl fun w₁ h₁ => ?_
  obtain ⟨h1, h2⟩ := hrun w₁ h₁
  obtain ⟨f, ts, asg, body, g1, g2, g3⟩ := hy Post (b.atR a (.inRegion ops (i :: rest) :: k)) cs (fun w' S' q => by rw [finishR ho]; exact hnext w' S' q Post b k cs rfl hk hc) w₁ h₁
  exact ⟨_, w₁, _, sR_round ho hw hk.1 (h1.trans g1), Nat.le_refl _, fun e he => g2 e (by have := seen_sub e he; rwa [h2] at this), g3⟩

def E0 (pr : Nat → Prop) : Emb := { blk := fun _ => 0, sz := fun _ => 0, U := fun _ => False, gh := fun _ => False, pr := pr, fr := pr }
/-- nothing is owned; all there is stays -/
def Er (pr : Nat → Prop) (w : World) : Emb := { E0 pr with fr := (· < w.heap.size) }
/-- ████ an iterator's contract: it yields these, one behind the other, and nothing else turns ████ -/
structure IterE (P : Program) (gl : List (Nat × Value)) (g : FuncId) (caps : List AV) (xs : List (List AV)) : Prop where
  run : ∀ (l : Nat) (cv : Array Value) (pr : Nat → Prop) (w0 : World) (S0 : Sh) (J : Nat → World → Sh → Prop),
    cv.size = caps.length → (∀ (k : Nat) (x : AV), caps[k]? = some x → RepA w0 (E0 pr) x (cv.getD k undef)) →
    (∀ i w S w₁, J i w S → AtRel w w₁ → J i w₁ S) →
    (∀ i w S, J i w S → (∀ r, pr r → w.heap[r]? = w0.heap[r]?) ∧ (company P gl).ok S (Er pr w) w ∧ ∀ r, pr r → r < w.heap.size) →
    (∀ i w S w' S' E', J i w S → Ext (fun _ => False) (Er pr w) w E' w' → (company P gl).ok S' E' w' → (company P gl).le S w.heap.size S' → J i w' S') →
    (∀ i (hi : i < xs.length) w S vs, J i w S → vs.size = (xs[i]).length → (∀ (k : Nat) (x : AV), (xs[i])[k]? = some x → RepA w (E0 pr) x (vs.getD k undef)) → YieldE P l vs w S (J (i + 1))) →
    J 0 w0 S0 → CallsE P g (#[.func (.yield l) #[] #[]] ++ cv) w0 S0 (fun _ w S => J xs.length w S)

/-! the statement -/
theorem seen_nil {P : Program} {f : FuncId} : seen P f #[] = #[] := by simp [seen]
section
variable {P : Program} {main : Bool} {b : Frame} {a : Act} {kk : List Item} {cs : List Frame} {w : World}
theorem sR_range {f : Operand} {ps : Array Tmp} {asg body : Code} {g : FuncId} {cvs : Array Value} {fn : Func} {c : Code} (hbr : b.roundOf = none) (hbk : b.kind ≠ .early) (hf : a.eval f = .func (.func g) #[] cvs) (hg : P.funcs[g]? = some fn) (hn : (fn.name == "runtime.NumGoroutine") = false) (hb : fn.body = some c) :
    stepG P main (G (b.atR a (.code (.rangeFunc f ps asg body) :: kk)) cs) w = .go (G (Frame.enter P g (#[.func (.yield (w.heap.size + 1)) #[] #[]] ++ cvs) .normal) (b.atR { a with defers := { target := .collected w.heap.size, args := #[] } :: a.defers } (.inRangeFunc (w.heap.size + 1) :: kk) :: cs))
      ((w.alloc (.deferred (some []))).alloc (.loop { state := .ready, pending := none, fn := b.fn, tmps := a.tmps, params := ps, assign := asg, body, defers := w.heap.size })) #[] := by
  have hk' : (b.kind == CallKind.early) = false := by simpa using hbk
  have he := run_enterLoop_outer (P := P) (w := w) b.fn a.tmps ps asg body
  have hev : (Instr.enterLoop b.fn a.tmps ps asg body none).events P w #[] = #[] := by
    unfold Instr.enterLoop
    simp only [Sem.events_bind, run_newObj_alloc, events_newObj, Result.evThen_ok, Sem.run_pure, Sem.run_bind, Result.andThen_ok, Sem.events_pure]
  have ha := evalR b { a with defers := { target := .collected w.heap.size, args := #[] } :: a.defers } (.inRangeFunc (w.heap.size + 1) :: kk)
  have hf' : ({ a with defers := { target := .collected w.heap.size, args := #[] } :: a.defers } : Act).eval f = .func (.func g) #[] cvs := by
    rw [← hf]; cases f <;> rfl
  simp only [Frame.atR, hbr] at ha
  have hn' : ¬ fn.name = "runtime.NumGoroutine" := by simpa using hn
  have hcall : ∀ args w', (callFunc g args).run P w' = .ok (.enter g args) w' ∧ (callFunc g args).events P w' #[] = #[] := fun args w' => by
    simp [callFunc, hg, hn', hb, Sem.run_bind, Sem.events_bind]
  have hd : ∀ w', (do let d ← resolve ({ a with defers := { target := .collected w.heap.size, args := #[] } :: a.defers } : Act).eval { callee := .value f, args := #[.const (.func (.yield (w.heap.size + 1)) #[] #[])], argTypes := #[] } 0; invoke d.target d.args : Sem Next).run P w' = .ok (.enter g (#[.func (.yield (w.heap.size + 1)) #[] #[]] ++ cvs)) w' ∧
      (do let d ← resolve ({ a with defers := { target := .collected w.heap.size, args := #[] } :: a.defers } : Act).eval { callee := .value f, args := #[.const (.func (.yield (w.heap.size + 1)) #[] #[])], argTypes := #[] } 0; invoke d.target d.args : Sem Next).events P w' #[] = #[] := fun w' => by
    obtain ⟨q1, q2⟩ := hcall (#[.func (.yield (w.heap.size + 1)) #[] #[]] ++ cvs) w'
    simp only [resolve, hf', Deferred.ofValue]
    simp [invoke, q1, q2, Sem.run_bind, Sem.events_bind, Act.eval] at q1 q2 ⊢
    try exact ⟨q1, q2⟩
  simp only [G, stepG, stepG.exec, Frame.atR, hbr, Sem.runT_eq, he, hev, seen_nil, GStep.after, stepG.apply, List.cons_append, List.nil_append, ha, if_true]
  rw [(hd _).1, (hd _).2]
  simp [hk', GStep.after, seen_nil]
theorem sR_endRange {l : Nat} {r : Loop} (h : w.heap[l]? = some (.loop r)) (hb : r.state ≠ .busy) (hp : r.pending = none) :
    stepG P main (G (b.atR a (.endRangeFunc l :: kk)) cs) w = .go (G (b.atR a kk) cs) (w.putObj l (.loop { r with state := .exhausted })) (seen P b.fn ((Instr.endLoop l).events P w #[])) := by
  have := run_endLoop (P := P) h hb
  rw [hp] at this
  simp [G, stepG, stepG.exec, Frame.atR, Sem.runT_eq, this, GStep.after, hp]
theorem sR_begin {l : Nat} {r : Loop} (hbr : b.roundOf = some l) (hbk : b.kind ≠ .early) (h : w.heap[l]? = some (.loop r)) (hr : r.state = .ready) :
    stepG P main (G (b.atR a (.beginRound :: kk)) cs) w = .go (G (b.atR a kk) cs) (w.putObj l (.loop { r with state := .busy })) (seen P b.fn ((Instr.beginRound l).events P w #[])) := by
  have hk' : (b.kind == CallKind.early) = false := by simpa using hbk
  have := run_beginRound (P := P) h hr
  simp [G, stepG, stepG.exec, stepG.apply, Frame.atR, hbr, Sem.runT_eq, Sem.run_bind, Sem.events_bind, this, GStep.after, hk', Frame.finish]
theorem sR_roundEnd {l : Nat} {r : Loop} {c : Frame} (hbr : b.roundOf = some l) (hbk : b.kind = .normal) (h : w.heap[l]? = some (.loop r)) :
    stepG P main (G (b.atR a []) (c :: cs)) w = .go (G (c.finish (.bool true)) cs) (w.putObj l (.loop { r with state := .ready, pending := none })) (seen P b.fn ((Instr.endRound l none).events P w #[])) := by
  have := run_endRound (P := P) none h
  simp at this
  simp [G, stepG, stepG.exec, Frame.atR, hbr, hbk, Sem.runT_eq, this, GStep.after, doReturn]
end
theorem ev_getLoop {P : Program} {w : World} {l : Nat} {r : Loop} (h : w.heap[l]? = some (.loop r)) : (Instr.getLoop l).events P w #[] = #[⟨.obj l, false, false⟩] := by
  unfold Instr.getLoop
  rw [Sem.events_bind, run_getObj_loop h]
  have : (getObj l).events P w #[] = #[⟨.obj l, false, false⟩] := by simp [getObj, Sem.events, Sem.runT, h, Obj.isChan, -Sem.runT_eq]
  rw [this]; rfl
theorem ev_setLoop {P : Program} {w : World} {l : Nat} {r r' : Loop} (h : w.heap[l]? = some (.loop r)) : (setObj l (.loop r')).events P w #[] = #[⟨.obj l, true, false⟩] := by simp [setObj, Sem.events, Sem.runT, h, Obj.isChan, -Sem.runT_eq]
theorem evL_obj {S₀ : Nat → Prop} {B r : Nat} {wr : Bool} (h : r < B) : EvL (shunOf S₀) B ⟨.obj r, wr, false⟩ := by
  have e0 : MemAct.ofEvent ⟨.obj r, wr, false⟩ = .access ⟨.obj r, wr, false⟩ := by cases wr <;> rfl
  refine ⟨fun x hx hs => ?_, by simp, by simp, by rw [e0]; exact h⟩
  simp only [e0, MemAct.touch?, Option.some.injEq] at hx
  subst hx
  obtain ⟨a, ha, _⟩ := hs
  cases ha
theorem ev_beginRound {P : Program} {w : World} {l : Nat} {r : Loop} (h : w.heap[l]? = some (.loop r)) (hr : r.state = .ready) : ∀ e ∈ (Instr.beginRound l).events P w #[], ∃ wr, e = ⟨.obj l, wr, false⟩ := fun e he => by
  unfold Instr.beginRound at he
  rcases mem_seq he (run_getLoop h) with h0 | h0
  · rw [ev_getLoop h] at h0; exact ⟨_, by simpa using h0⟩
  rcases mem_seq h0 (run_setObj_loop _ h) with h0 | h0
  · rw [ev_setLoop h] at h0; exact ⟨_, by simpa using h0⟩
  · rw [hr] at h0; simp at h0
theorem ev_endRound {P : Program} {w : World} {l : Nat} {r : Loop} (h : w.heap[l]? = some (.loop r)) : ∀ e ∈ (Instr.endRound l none).events P w #[], ∃ wr, e = ⟨.obj l, wr, false⟩ := fun e he => by
  unfold Instr.endRound at he
  rcases mem_seq he (run_getLoop h) with h0 | h0
  · rw [ev_getLoop h] at h0; exact ⟨_, by simpa using h0⟩
  rcases mem_seq h0 (run_setObj_loop _ h) with h0 | h0
  · rw [ev_setLoop h] at h0; exact ⟨_, by simpa using h0⟩
  · simp at h0
theorem ev_endLoop {P : Program} {w : World} {l : Nat} {r : Loop} (h : w.heap[l]? = some (.loop r)) (hb : r.state ≠ .busy) : ∀ e ∈ (Instr.endLoop l).events P w #[], ∃ wr, e = ⟨.obj l, wr, false⟩ := fun e he => by
  unfold Instr.endLoop at he
  rcases mem_seq he (run_getLoop h) with h0 | h0
  · rw [ev_getLoop h] at h0; exact ⟨_, by simpa using h0⟩
  have hb' : (r.state == LoopState.busy) = false := by cases hs : r.state <;> simp_all
  simp only [hb', Bool.false_eq_true, if_false] at h0
  rcases mem_seq h0 (run_setObj_loop _ h) with h0 | h0
  · rw [ev_setLoop h] at h0; exact ⟨_, by simpa using h0⟩
  · simp at h0
theorem ev_yield {P : Program} {w : World} {l : Nat} {r : Loop} {vs : Array Value} (h : w.heap[l]? = some (.loop r)) (hs : vs.size = r.params.size) : ∀ e ∈ (Instr.yield l vs).events P w #[], ∃ wr, e = ⟨.obj l, wr, false⟩ := fun e he => by
  unfold Instr.yield at he
  rcases mem_seq he (run_getLoop h) with h0 | h0
  · rw [ev_getLoop h] at h0; exact ⟨_, by simpa using h0⟩
  · rw [if_neg (by simpa using hs)] at h0; simp at h0
end Go.Proofs.YtdjoodbidcncaaaGreatDoor.AW

/- Range over a function, beside leavers: the rule. -/
namespace Go.Proofs.YtdjoodbidcncaaaGreatDoor.AW
open Go Go.Conc

abbrev mk1 (r : Nat) : Deferred := { target := .collected r, args := #[] }
def idl (k : Nat) : List (Nat × Nat) := (List.range k).map fun i => (i, i)
theorem lk_map (l : List Nat) (b : Nat) : lk (l.map fun i => (i, i)) b = if b ∈ l then some b else none := by
  induction l with
  | nil => rfl
  | cons i l ih =>
    simp only [List.map_cons, lk]
    split
    · rename_i h
      have := Nat.eq_of_beq_eq_true h
      subst this; simp
    · rename_i h
      have hne : b ≠ i := fun e => by subst e; rw [Nat.beq_refl] at h; cases h
      rw [ih]; simp [hne]
theorem lk_idl {k b : Nat} (h : b < k) : lk (idl k) b = some b := by unfold idl; rw [lk_map, if_pos (List.mem_range.2 h)]
theorem lk_idl_out {k b x : Nat} (h : lk (idl k) b = some x) : b < k ∧ x = b := by
  unfold idl at h
  rw [lk_map] at h
  split at h
  · rename_i hb; cases h; exact ⟨List.mem_range.1 hb, rfl⟩
  · cases h
theorem renOk_idl (k : Nat) : renOk k k (idl k) = true := by
  simp only [renOk, Bool.and_eq_true, List.all_eq_true]
  refine ⟨⟨fun b hb => by simp [lk_idl (List.mem_range.1 hb)], fun p hp => ?_⟩, fun p hp q hq => ?_⟩
  · obtain ⟨i, hi, rfl⟩ := List.mem_map.1 hp
    simpa using hi
  · obtain ⟨i, hi, rfl⟩ := List.mem_map.1 hp
    obtain ⟨j, hj, rfl⟩ := List.mem_map.1 hq
    by_cases h : i = j <;> simp [h]
theorem RepA.closed {w : World} {E : Emb} {x : AV} {v : Value} (h : RepA w E x v) (hn : nmA 0 x = true) : RepA w (E0 E.pr) x v :=
  (LeA.rep (ρ := fun _ => none) (LeA.self hn) h).mono (E := E.ren fun _ => none) (E' := E0 E.pr) (fun _ _ => rfl) (fun _ h => h) fun b hb => by obtain ⟨x, hx, _⟩ := hb; cases hx
theorem nmL_get {n : Nat} : ∀ {l : List AV} {j : Nat} {x : AV}, nmL n l = true → l[j]? = some x → nmA n x = true
  | [], j, x, _, h => by simp at h
  | y :: l, 0, x, h, e => by simp only [nmL, Bool.and_eq_true] at h; simp at e; exact e ▸ h.1
  | y :: l, j + 1, x, h, e => by simp only [nmL, Bool.and_eq_true] at h; exact nmL_get h.2 (by simpa using e)
def pT : List Nat → List AV → List (Nat × AV) → List (Nat × AV)
  | p :: ps, x :: xs, T => pT ps xs ((p, x) :: T)
  | _, _, T => T
theorem tinv_pT {N : Nat} {E : Emb} {w : World} : ∀ (ps : List Nat) (xs : List AV) (vs : List Value) (T : List (Nat × AV)) (ts : Array Value), ps.length = xs.length → vs.length = xs.length → (∀ p ∈ ps, p < N) → (∀ (k : Nat) (x : AV), xs[k]? = some x → RepA w E x (vs.getD k undef)) → TInv N E (get T) ⟨ts, []⟩ w →
    TInv N E (get (pT ps xs T)) ⟨(ps.zip vs).foldl (fun tmps (t, a) => tmps.setIfInBounds t a) ts, []⟩ w
  | [], [], [], T, ts, _, _, _, _, h => h
  | p :: ps, x :: xs, v :: vs, T, ts, h1, h2, h3, h4, h => by
    have hp := h.put (some p) (fun y hy => by cases hy; exact h3 p (by simp)) (h4 0 x rfl)
    refine tinv_pT ps xs vs ((p, x) :: T) (ts.setIfInBounds p v) (by simpa using h1) (by simpa using h2) (fun q hq => h3 q (by simp [hq])) (fun k y hy => h4 (k + 1) y (by simpa using hy)) ?_
    have e : get ((p, x) :: T) = setT (get T) (some p) x := get_app ⟨T, [], 0⟩ (some p) ⟨x, [], [], []⟩
    rw [e]
    exact hp
section
variable {P : Program} {gl : List (Nat × Value)} {N k : Nat} {E : Emb} {st : St} {a : Act} {w : World} {S : Sh}
theorem Inv.same {w' : World} (h : Inv (company P gl) N k E st a w S) (hh : w'.heap = w.heap) (hio : SameIO w w') : Inv (company P gl) N k E st a w' S := by
  obtain ⟨g1, g2⟩ := h.h.same hh hio
  exact ⟨h.t.mono g2 (fun _ h => h) h.h.prfr, g1, h.nx, h.k, (company_sound P gl).okExt h.ok g2⟩
theorem ext_same {K : Nat → Prop} {E : Emb} {w w' : World} (hh : w'.heap = w.heap) (hio : SameIO w w') : Ext K E w E w' :=
  ⟨fun r _ => by rw [hh], fun _ h => h, fun _ h => h, by rw [hh]; exact Nat.le_refl _, fun _ _ => ⟨rfl, rfl, .rfl⟩, fun b hb hg => .inr ⟨b, hb, hg, rfl⟩, fun _ h => .inl h, hio⟩
theorem ext_put {E' : Emb} {w0 w' : World} {r : Nat} {o : Obj} (x : Ext (fun _ => False) E w0 E' w') (hr : ∀ y, E.fr y → y ≠ r) : Ext (fun _ => False) E w0 E' (w'.putObj r o) :=
  ⟨fun y hy => (World.putObj_heap_other (hr y hy)).trans (x.keep y hy), x.fr, x.pr, by rw [World.putObj_size]; exact x.sz, fun _ h => h.elim, fun b hb hg => by rw [World.putObj_size]; exact x.un b hb hg, x.pn, x.io⟩
theorem ext_frs {F : Nat → Prop} {K : Nat → Prop} {w' : World} (hk : ∀ r, E.fr r → w'.heap[r]? = w.heap[r]?) (hsz : w.heap.size ≤ w'.heap.size) (hio : SameIO w w') : Ext K E w { E with fr := fun r => E.fr r ∨ F r } w' :=
  ⟨hk, fun _ h => .inl h, fun _ h => h, hsz, fun _ _ => ⟨rfl, rfl, .rfl⟩, fun b hb hg => .inr ⟨b, hb, hg, rfl⟩, fun _ h => .inl h, hio⟩
theorem Apt.size {r : Nat} {w' : World} (h : Apt r E w) (hs : w'.heap.size = w.heap.size) : Apt r E w' := ⟨h.fr, h.pr, h.un, by rw [hs]; exact h.lt⟩
/-- what holds between two rounds -/
structure Btw (P : Program) (gl : List (Nat × Value)) (Ef : Emb) (w0 : World) (S0 : Sh) (N k : Nat) (T1 : List (Nat × AV)) (T0 : Array Value) (D l : Nat) (rec : Loop) (H : List (Nat × Option Block)) (w : World) (S : Sh) : Prop where
  ex : ∃ E, Inv (company P gl) N k E ⟨T1, H, k⟩ ⟨T0, []⟩ w S ∧ Ext (fun _ => False) Ef w0 E w ∧ Apt D E w ∧ Apt l E w
  le : (company P gl).le S0 w0.heap.size S
  hD : w.heap[D]? = some (.deferred (some []))
  hl : w.heap[l]? = some (.loop rec)
variable {Ef : Emb} {w0 : World} {S0 : Sh} {T1 : List (Nat × AV)} {T0 : Array Value} {D l : Nat} {rec : Loop} {H : List (Nat × Option Block)}
theorem Btw.rely {w₁ : World} (h : Btw P gl Ef w0 S0 N k T1 T0 D l rec H w S) (hr : AtRel w w₁) : Btw P gl Ef w0 S0 N k T1 T0 D l rec H w₁ S := by
  obtain ⟨hh, hio⟩ := (company_sound P gl).rel hr
  obtain ⟨E, h1, h2, h3, h4⟩ := h.ex
  exact ⟨⟨E, h1.same hh hio, h2.trans (ext_same hh hio), h3.size (by rw [hh]), h4.size (by rw [hh])⟩, h.le, by rw [hh]; exact h.hD, by rw [hh]; exact h.hl⟩
theorem Btw.sh (h : Btw P gl Ef w0 S0 N k T1 T0 D l rec H w S) : ∃ S₀, S = shunOf S₀ ∧ ∀ r, S₀ r → r < w.heap.size := by
  obtain ⟨E, h1, _⟩ := h.ex
  obtain ⟨⟨S₀, e, hs⟩, _⟩ := h1.ok
  exact ⟨S₀, e, hs.lt⟩
theorem Btw.grow {w' : World} {S' : Sh} (h : Btw P gl Ef w0 S0 N k T1 T0 D l rec H w S) (hk : ∀ r, r < w.heap.size → w'.heap[r]? = w.heap[r]?) (hsz : w.heap.size ≤ w'.heap.size) (hio : SameIO w w') (hS : ∃ S₀, S' = shunOf S₀ ∧ ∀ r, S₀ r → r < w'.heap.size) (hle : (company P gl).le S w.heap.size S') :
    Btw P gl Ef w0 S0 N k T1 T0 D l rec H w' S' := by
  obtain ⟨E, h1, h2, h3, h4⟩ := h.ex
  have x : Ext (fun _ => False) E w { E with fr := fun r => E.fr r ∨ False } w' := ext_frs (fun r hr => hk r (h1.h.frlt r hr)) hsz hio
  exact ⟨⟨_, h1.grow hk hsz (fun _ h => h.elim) hS hle, h2.trans x, h3.ext x, h4.ext x⟩, (company P gl).leTrans h.le hle h2.sz, (hk D h3.lt).trans h.hD, (hk l h4.lt).trans h.hl⟩
variable {ti : Nat → Option TI} {tok : ∀ t i, ti t = some i → TIok P t i}
/-- a round -/
theorem round_yield (hm : P.follows .mixedOrders = true) (I : Nat → List (Nat × Option Block)) (i : Nat) (xs : List AV) (hr1 : rec.state = .ready) (hr2 : rec.pending = none) (hr3 : rec.tmps = T0) (hps : rec.params.size = xs.length) (hpN : ∀ p ∈ rec.params, p < N) (hRn : Rnd P rec.fn) (hDl : D ≠ l) (hEl : ∀ y, Ef.fr y → y ≠ l)
    (hv : vc (cx P ti tok gl) N k rec.assign ⟨pT rec.params.toList xs T1, I i, k⟩ fun e st' => e = .normal ∧ vc (cx P ti tok gl) N k rec.body st' fun e st'' => e = .normal ∧ AllH (lk (idl k)) (geth st''.H) (I (i + 1)))
    {vs : Array Value} (hb : Btw P gl Ef w0 S0 N k T1 T0 D l rec (I i) w S) (hs : vs.size = xs.length) (hx : ∀ (k : Nat) (x : AV), xs[k]? = some x → RepA w (E0 Ef.pr) x (vs.getD k undef)) :
    YieldE P l vs w S (Btw P gl Ef w0 S0 N k T1 T0 D l rec (I (i + 1))) := by
  intro Post c cs hc w₁ hr
  have hw₁ := (company_sound P gl).rel hr
  replace hb := hb.rely hr
  obtain ⟨E, hI, hX, hD, hL⟩ := hb.ex
  obtain ⟨S₀, eS, hlt⟩ := hb.sh
  subst hr3
  refine ⟨rec.fn, _, rec.assign, rec.body, run_yield hb.hl (by omega), fun e he => ?_, ?_⟩
  · obtain ⟨wr, rfl⟩ := ev_yield hb.hl (by omega) e he
    rw [eS]; exact evL_obj hL.lt
  let b : Frame := { fn := rec.fn, tmps := #[], todo := [], defers := [], mode := .run, kind := .normal, roundOf := some l }
  have hfok : FrmOk P b := ⟨by simp [b], .inr hRn⟩
  have hI1 : Inv (company P gl) N k E ⟨pT rec.params.toList xs T1, I i, k⟩ ⟨(rec.params.zip vs).foldl (fun tmps (t, a) => tmps.setIfInBounds t a) rec.tmps, []⟩ w₁ S := by
    refine ⟨?_, hI.h, hI.nx, hI.k, hI.ok⟩
    rw [← Array.foldl_toList, Array.toList_zip]
    refine tinv_pT _ _ _ _ _ (by simpa using hps) (by simpa using hs) (fun p hp => hpN p (by simpa using hp)) (fun j x hj => ?_) hI.t
    have e : vs.toList.getD j undef = vs.getD j undef := by simp [List.getD, Array.getD_eq_getD_getElem?]
    rw [e]
    exact (hx j x hj).mono (E := E0 Ef.pr) (fun r hr' => by rw [hw₁.1]) (fun r hr' => hX.pr r hr') (fun b hb => hb.elim)
  have h1 := vc_ok hm rec.assign _ _ hv rec.fn E _ w₁ S hI1
  refine h1 Post b (.beginRound :: .code rec.body :: []) (c :: cs) rfl hfok fun e a' w' S' ⟨st', E', ⟨he, hv2⟩, hI', hx', hle'⟩ => ?_
  subst he
  show Ends P Post S' (G (b.atR a' (.beginRound :: .code rec.body :: [])) (c :: cs)) w'
  refine Ends.step rfl fun w₂ hr2' => ?_
  obtain ⟨hh2, hio2⟩ := (company_sound P gl).rel hr2'
  have hl2 : w₂.heap[l]? = some (.loop rec) := by rw [hh2, hx'.keep l hL.fr]; exact hb.hl
  have hL2 : Apt l E' w₂ := (hL.ext hx').size (by rw [hh2])
  obtain ⟨⟨S₁, eS1, hs1⟩, _⟩ := hI'.ok
  refine ⟨_, _, _, sR_begin (b := b) rfl (by simp [b]) hl2 hr1, by rw [World.putObj_size]; exact Nat.le_refl _, fun e he => ?_, ?_⟩
  · obtain ⟨wr, rfl⟩ := ev_beginRound hl2 hr1 e (seen_sub e he)
    rw [eS1, World.putObj_size]; exact evL_obj hL2.lt
  have hI3 := (hI'.same hh2 hio2).putObj (o := .loop { rec with state := .busy }) hL2
  have h2 := vc_ok hm rec.body _ _ hv2 rec.fn E' a' _ S' hI3
  refine h2 Post b [] (c :: cs) rfl hfok fun e a'' w'' S'' ⟨st'', E'', ⟨he, hH⟩, hI'', hx'', hle''⟩ => ?_
  subst he
  show Ends P Post S'' (G (b.atR a'' []) (c :: cs)) w''
  have hL3 : Apt l E' (w₂.putObj l (.loop { rec with state := .busy })) := hL2.size World.putObj_size
  refine Ends.step rfl fun w₄ hr4 => ?_
  obtain ⟨hh4, hio4⟩ := (company_sound P gl).rel hr4
  have hl4 : w₄.heap[l]? = some (.loop { rec with state := .busy }) := by
    rw [hh4, hx''.keep l hL3.fr]; exact World.putObj_heap_same hL2.lt
  obtain ⟨⟨S₂, eS2, hs2⟩, _⟩ := hI''.ok
  have hL4 : Apt l E'' w₄ := (hL3.ext hx'').size (by rw [hh4])
  refine ⟨_, _, _, sR_roundEnd (b := b) (cs := cs) (c := c) rfl rfl hl4, by rw [World.putObj_size]; exact Nat.le_refl _, fun e he => ?_, hc _ S'' ?_⟩
  · obtain ⟨wr, rfl⟩ := ev_endRound hl4 e (seen_sub e he)
    rw [eS2, World.putObj_size]; exact evL_obj hL4.lt
  have erec : ({ ({ rec with state := .busy } : Loop) with state := .ready, pending := none } : Loop) = rec := by
    cases rec; simp_all
  rw [erec]
  obtain ⟨g1, g2⟩ := ren_heap (renOk_idl k) hI''.h hI''.k hH
  let E5 := E''.ren (lk (idl k))
  -- the record's own slots
  have prs : ∀ r, E.pr r → w''.heap[r]? = w₁.heap[r]? := fun r hr' => by
    have hp' := hx'.pr r hr'
    have hne : r ≠ l := fun e => hL2.pr (e ▸ hp')
    rw [hx''.keep r (hI3.h.prfr r hp'), World.putObj_heap_other hne, hh2, hx'.keep r (hI.h.prfr r hr')]
  have t5 : TInv N E5 (get T1) ⟨rec.tmps, []⟩ w'' := by
    refine ⟨fun t => (hI.t.tm t).mono (E' := E5) prs (fun r hr' => hx''.pr r (hx'.pr r hr')) (fun y hy => ?_), hI.t.sz, hI.t.df⟩
    have hyk := hI.nx y hy
    obtain ⟨a1, a2, a3⟩ := hx'.nm y hyk
    obtain ⟨b1, b2, b3⟩ := hx''.nm y hyk
    have e := lk_idl hyk
    refine ⟨⟨y, e, hI''.k y hyk⟩, ?_, ?_, ?_⟩
    · show (match lk (idl k) y with | some x => E''.blk x | none => 0) = _
      rw [e]; exact b1.trans a1
    · show (match lk (idl k) y with | some x => E''.sz x | none => 0) = _
      rw [e]; exact b2.trans a2
    · exact ⟨fun ⟨x, hx1, hx2⟩ => by rw [e] at hx1; cases hx1; exact a3.1 (b3.1 hx2), fun hg => ⟨y, e, b3.2 (a3.2 hg)⟩⟩
  have i5 : Inv (company P gl) N k E5 ⟨T1, I (i + 1), k⟩ ⟨rec.tmps, []⟩ w'' S'' := ⟨t5, g1, fun y ⟨x, hx1, _⟩ => (lk_idl_out hx1).1, fun y hy => ⟨y, lk_idl hy, hI''.k y hy⟩, (company_sound P gl).okExt hI''.ok g2⟩
  have g2' : Ext (fun _ => False) E'' w'' E5 w'' := g2.weaken fun _ h => h.elim
  have X3 : Ext (fun _ => False) Ef w0 E' (w₂.putObj l (.loop { rec with state := .busy })) := ext_put ((hX.trans' hx' fun _ h => h.elim).trans (ext_same hh2 hio2)) hEl
  have X5 : Ext (fun _ => False) Ef w0 E5 (w₄.putObj l (.loop rec)) := ext_put (((X3.trans' hx'' fun _ h => h.elim).trans g2').trans (ext_same hh4 hio4)) hEl
  have D3 : Apt D E' (w₂.putObj l (.loop { rec with state := .busy })) := ((hD.ext hx').size (by rw [hh2])).size World.putObj_size
  have D5 : Apt D E5 (w₄.putObj l (.loop rec)) := (((D3.ext hx'').ext g2').size (by rw [hh4])).size World.putObj_size
  have L5 : Apt l E5 w₄ := ((hL3.ext hx'').ext g2').size (by rw [hh4])
  refine ⟨⟨E5, (i5.same hh4 hio4).putObj L5, X5, D5, L5.size World.putObj_size⟩, ?_, ?_, World.putObj_heap_same L5.lt⟩
  · refine (company P gl).leTrans ((company P gl).leTrans hb.le hle' hX.sz) (n' := (w₂.putObj l (.loop { rec with state := .busy })).heap.size) hle'' ?_
    exact X3.sz
  · rw [World.putObj_heap_other hDl, hh4, hx''.keep D D3.fr, World.putObj_heap_other hDl, hh2, hx'.keep D hD.fr]
    exact hb.hD
theorem Ends.range (hm : P.follows .mixedOrders = true) {Post : Value → World → Prop} {b : Frame} {cs : List Frame} {kk : List Item} {f : Operand} {ps : Array Tmp} {asg body : Code} {g : FuncId} {fn : Func} {c : Code} {caps0 : List AV} {xs : List (List AV)} (I : Nat → List (Nat × Option Block)) (T1 : List (Nat × AV)) (k : Nat)
    (hbr : b.roundOf = none) (hbk : b.kind ≠ .early) (hRn : Rnd P b.fn) (hI : Inv (company P gl) N 0 E st a w S) (hfn : ev (get st.T) f = .fn (.func g) [] caps0) (hg : P.funcs[g]? = some fn) (hn : (fn.name == "runtime.NumGoroutine") = false) (hbd : fn.body = some c)
    (hx : vExpL [] (geth st.H) caps0 fun caps ns => (nmL 0 caps = true ∧ IterE P gl g caps xs) ∧ ∃ l : List (Nat × Nat), Sub 0 l ⟨st.T, (gone ns).reverse ++ st.H, st.nx⟩ ⟨T1, I 0, k⟩)
    (hdom : ∀ b, b < k → (geth (I 0) b).isSome = true) (hps : ∀ i (hi : i < xs.length), (xs[i]).length = ps.size) (hpN : ∀ p ∈ ps, p < N)
    (rounds : ∀ i (hi : i < xs.length), vc (cx P ti tok gl) N k asg ⟨pT ps.toList xs[i] T1, I i, k⟩ fun e st' => e = .normal ∧ vc (cx P ti tok gl) N k body st' fun e st'' => e = .normal ∧ AllH (lk (idl k)) (geth st''.H) (I (i + 1)))
    (fin : ∀ E' w' S' D, Inv (company P gl) N k E' ⟨T1, I xs.length, k⟩ ⟨a.tmps, []⟩ w' S' → Ext (fun _ => False) E w E' w' → (company P gl).le S w.heap.size S' → Apt D E' w' → w.heap.size ≤ D → w'.heap[D]? = some (.deferred (some [])) → Ends P Post S' (G (b.atR (up (mk1 D) ⟨a.tmps, []⟩) kk) cs) w') :
    Ends P Post S (G (b.atR a (.code (.rangeFunc f ps asg body) :: kk)) cs) w := by
  refine Ends.step rfl fun w₁ hr => ?_
  obtain ⟨hh1, hio1⟩ := (company_sound P gl).rel hr
  replace hI := hI.same hh1 hio1
  have hw1 : Ext (fun _ => False) E w E w₁ := ext_same hh1 hio1
  have hszw : w.heap.size = w₁.heap.size := by rw [hh1]
  obtain ⟨caps, ns, ⟨⟨hnm, hIt⟩, l, hsub⟩, hns, hE1, hE2, hE3⟩ := vExpL_out hx
  have hfr := rep_ev hI.t f
  rw [hfn] at hfr
  generalize hfv : a.eval f = fv at hfr
  cases hfr with
  | fn _ _ _ fa cb hfa hcb hf1 hf2 =>
  have hfa : fa = #[] := by simpa using hfa
  subst hfa
  obtain ⟨k1, k2⟩ := hI.h.frz ns hE1
  have hInvf : Inv (company P gl) N 0 (E.frz ns) ⟨st.T, (gone ns).reverse ++ st.H, st.nx⟩ a w₁ S :=
    ⟨hI.t.mono k2 (fun _ h => h) hI.h.prfr, by show HInv (E.frz ns) (geth ((gone ns).reverse ++ st.H)) w₁; rw [geth_rev]; exact k1, hI.nx, hI.k, (company_sound P gl).okExt hI.ok k2⟩
  obtain ⟨q1, q2⟩ := Sub.inv (C := cx P ti tok gl) hsub hInvf
  have q1 : Inv (company P gl) N 0 ((E.frz ns).ren (lk l)) ⟨T1, I 0, k⟩ a w₁ S := q1
  have hdf := hI.t.df
  obtain ⟨tmps, dfr⟩ := a
  have hdf : dfr = [] := hdf
  subst hdf
  obtain ⟨⟨S₀, eS, hsf⟩, hgl⟩ := q1.ok
  let rec0 : Loop := { state := .ready, pending := none, fn := b.fn, tmps := tmps, params := ps, assign := asg, body, defers := w₁.heap.size }
  let w₂ := (w₁.alloc (.deferred (some []))).alloc (.loop rec0)
  have hsz2 : w₂.heap.size = w₁.heap.size + 2 := by
    show ((w₁.heap.push _).push _).size = _
    simp
  have old : ∀ r, r < w₁.heap.size → w₂.heap[r]? = w₁.heap[r]? := fun r hr' => by
    show ((w₁.heap.push _).push _)[r]? = _
    rw [Array.getElem?_push, if_neg (by simp; omega), Array.getElem?_push, if_neg (by omega)]
  have hlD : w₂.heap[w₁.heap.size]? = some (.deferred (some [])) := by
    show ((w₁.heap.push _).push _)[_]? = _
    rw [Array.getElem?_push, if_neg (by simp), Array.getElem?_push, if_pos rfl]
  have hll : w₂.heap[w₁.heap.size + 1]? = some (.loop rec0) := by
    show ((w₁.heap.push _).push _)[_]? = _
    rw [Array.getElem?_push, if_pos (by simp)]
  let F : Nat → Prop := fun r => r = w₁.heap.size ∨ r = w₁.heap.size + 1
  let E2 : Emb := { (E.frz ns).ren (lk l) with fr := fun r => ((E.frz ns).ren (lk l)).fr r ∨ F r }
  have i2 : Inv (company P gl) N 0 E2 ⟨T1, I 0, k⟩ ⟨tmps, []⟩ w₂ S := q1.grow old (by omega) (fun r hr' => by rcases hr' with rfl | rfl <;> omega) ⟨S₀, eS, fun r hr' => by have := hsf.lt r hr'; omega⟩ ((company P gl).leRefl _ _)
  have i2k : Inv (company P gl) N k E2 ⟨T1, I 0, k⟩ ⟨tmps, []⟩ w₂ S := ⟨i2.t, i2.h, i2.nx, fun y hy => by
    have := hdom y hy
    obtain ⟨B, hB⟩ := Option.isSome_iff_exists.1 this
    exact (i2.h.un y B hB).1, i2.ok⟩
  have X2 : Ext (fun _ => False) (E.frz ns) w₁ E2 w₂ := (q2.weaken fun _ h => h.elim).trans (ext_frs (fun r hr' => old r (q1.h.frlt r hr')) (by omega) ⟨rfl, rfl, rfl⟩)
  have apt : ∀ r, F r → Apt r E2 w₂ := fun r hr' => by
    have hge : w₁.heap.size ≤ r := by rcases hr' with rfl | rfl <;> omega
    refine ⟨.inr hr', fun hp => ?_, fun y hy hg e => ?_, by rcases hr' with rfl | rfl <;> omega⟩
    · have := q1.h.frlt r (q1.h.prfr r hp); omega
    · have := hsf.ul y hy hg
      have e : ((E.frz ns).ren (lk l)).blk y = r := e
      omega
  have hB0 : Btw P gl (E.frz ns) w₁ S N k T1 tmps w₁.heap.size (w₁.heap.size + 1) rec0 (I 0) w₂ S := ⟨⟨E2, i2k, X2, apt _ (.inl rfl), apt _ (.inr rfl)⟩, (company P gl).leRefl _ _, hlD, hll⟩
  have hEl : ∀ y, (E.frz ns).fr y → y ≠ w₁.heap.size + 1 := fun y hy e => by have := k1.frlt y hy; omega
  refine ⟨_, w₂, #[], sR_range hbr hbk hfv hg hn hbd, by omega, fun e he => by simp at he, ?_⟩
  have hrun := hIt.run (w₁.heap.size + 1) cb (E.frz ns).pr w₂ S (fun i w' S' => Btw P gl (E.frz ns) w₁ S N k T1 tmps w₁.heap.size (w₁.heap.size + 1) rec0 (I i) w' S') (by omega)
    (fun j x hj => by
      obtain ⟨x0, h0, h1⟩ := hE3 _ (fun _ _ => rfl) E w₁ hI.h j x hj
      have h2 := h1 _ (hf2 j x0 h0)
      have hn0 : nmA 0 x = true := nmL_get hnm hj
      exact (h2.closed hn0).mono (E := E0 (E.frz ns).pr) (fun r hr' => old r (k1.frlt r (k1.prfr r hr'))) (fun _ h => h) (fun b hb => hb.elim))
    (fun i w S w₁ h hr' => ?_) (fun i w S h => ?_) (fun i w S w' S' E' h hx' hok' hle' => ?_) (fun i hi w S vs h hs hx' => ?_) ?_
  · refine hrun Post _ cs fun v w' S' h => ?_
    show Ends P Post S' (G (b.atR { tmps := tmps, defers := [mk1 w₁.heap.size] } (.endRangeFunc (w₁.heap.size + 1) :: kk)) cs) w'
    refine Ends.step rfl fun w₃ hr3 => ?_
    have h3 := h.rely hr3
    obtain ⟨E3, j1, j2, j3, j4⟩ := h3.ex
    obtain ⟨S₃, eS3, _⟩ := h3.sh
    refine ⟨_, _, _, sR_endRange h3.hl (by simp [rec0]) rfl, by rw [World.putObj_size]; exact Nat.le_refl _, fun e he => ?_, ?_⟩
    · obtain ⟨wr, rfl⟩ := ev_endLoop h3.hl (by simp [rec0]) e (seen_sub e he)
      rw [eS3, World.putObj_size]; exact evL_obj j4.lt
    have X3 : Ext (fun _ => False) E w E3 w₃ := (hw1.trans (k2.weaken fun _ h => h.elim)).trans j2
    refine fin E3 _ S' w₁.heap.size (j1.putObj j4) (ext_put X3 fun y hy e => ?_) ?_ (j3.size World.putObj_size) (by omega) ?_
    · have := hI.h.frlt y hy; omega
    · rw [hszw]; exact h3.le
    · rw [World.putObj_heap_other (by omega)]; exact h3.hD
  · exact h.rely hr'
  · obtain ⟨E3, j1, j2, j3, j4⟩ := h.ex
    obtain ⟨⟨S₃, eS3, hs3⟩, hg3⟩ := j1.ok
    have prk : ∀ r, (E.frz ns).pr r → E3.pr r := j2.pr
    have prl : ∀ r, (E.frz ns).pr r → r < w.heap.size := fun r hr' => j1.h.frlt r (j1.h.prfr r (prk r hr'))
    refine ⟨fun r hr' => ?_, ⟨⟨S₃, eS3, ⟨fun r hr' => hs3.pr r (prk r hr'), fun b hb => hb.elim, hs3.lt, fun b hb => hb.elim⟩⟩, fun p hp => ?_⟩, prl⟩
    · rw [j2.keep r (k1.prfr r hr'), old r (k1.frlt r (k1.prfr r hr'))]
    · obtain ⟨g1, g2, g3⟩ := hgl p hp
      have g1 : (E.frz ns).pr p.1 := g1
      obtain ⟨_, _, f3⟩ := hg3 p hp
      exact ⟨g1, prl _ g1, f3⟩
  · obtain ⟨⟨S₃, eS3, hs3⟩, hg3⟩ := hok'
    exact h.grow (fun r hr' => hx'.keep r hr') hx'.sz hx'.io ⟨S₃, eS3, hs3.lt⟩ hle'
  · exact round_yield (ti := ti) (tok := tok) (rec := rec0) hm I i xs[i] rfl rfl rfl ((hps i hi).symm) hpN hRn (by omega) hEl (rounds i hi) h hs hx'
  · exact hB0
end
end Go.Proofs.YtdjoodbidcncaaaGreatDoor.AW

/- Functions that range over a function: entered, left. -/
namespace Go.Proofs.YtdjoodbidcncaaaGreatDoor.AW
open Go Go.Conc

section
variable {C : Ctx}
/-- the results are read -/
theorem left_run {N k nx : Nat} {E : Emb} {st : St} {a : Act} {w : World} {x : C.M.X} {fn : Func} {res : AV} {Hout : List (Nat × Option Block)} (f : FuncId) (hI : Inv C.M N k E st a w x)
    (hv : vRes C st fn.results.toList fun r => ∃ l : List (Nat × Nat), renOk k nx l = true ∧ LeA (lk l) res (one r) ∧ AllH (lk l) (geth st.H) Hout) :
    ∃ v, (results fn a.tmps).run C.P w = .ok v w ∧ C.M.evs x w (seen C.P f ((results fn a.tmps).events C.P w #[])) ∧ ∃ E2, RepA w E2 res v ∧ HInv E2 (geth Hout) w ∧ Ext (· < k) E w E2 w ∧ C.M.ok x E2 w := by
  obtain ⟨r, ⟨l, q1, q2, q3⟩, hr⟩ := vRes_run hv
  obtain ⟨ws, e1, e2, e3, e4⟩ := hr _ E a w hI.t hI.h
  obtain ⟨g1, g2⟩ := ren_heap q1 hI.h hI.k q3
  have hone : RepA w E (one r) (if h : ws.toArray.size = 1 then ws.toArray[0] else .tuple ws.toArray) := by
    unfold one
    split
    · rename_i x
      have hws : ws.length = 1 := e2
      rw [dif_pos (by simpa using hws)]
      have := e3 0 x rfl
      have h0 : 0 < ws.length := by omega
      simpa [List.getD, h0] using this
    · rename_i hne
      have hws : ¬ ws.toArray.size = 1 := fun h => by
        have : r.length = 1 := by rw [← e2]; simpa using h
        obtain ⟨x, hx⟩ := List.length_eq_one_iff.1 this
        exact hne x hx
      rw [dif_neg hws]
      exact .tup _ _ (by simpa using e2) fun k y hy => by
        have := e3 k y hy
        simpa [List.getD, Array.getD_eq_getD_getElem?] using this
  refine ⟨_, ?_, C.sound.evSub (C.sound.okEv (es := (results fn a.tmps).events C.P w #[]) hI.ok (w' := w) ?_) seen_sub, _, LeA.rep q2 hone, g1, g2, C.sound.okExt hI.ok g2⟩
  · rw [results_eq, Array.mapM_eq_mapM_toList, Sem.run_bind, Sem.run_map, e1]
    rfl
  · rw [results_eq, Array.mapM_eq_mapM_toList]
    refine .union fun ev hev => ?_
    rcases mem_seq hev (show _ = Result.ok ws.toArray w by rw [Sem.run_map, e1]; rfl) with h | h
    · rw [Sem.events_map] at h; exact e4.one h
    · simp at h
end
section
variable {P : Program} {ti : Nat → Option TI} {tok : ∀ t i, ti t = some i → TIok P t i} {gl : List (Nat × Value)}
/-- the same, a call deferred below -/
abbrev cxD (P : Program) (ti : Nat → Option TI) (tok : ∀ t i, ti t = some i → TIok P t i) (gl : List (Nat × Value)) (D : Deferred) : Ctx := ⟨P, ti, tok, dfs P gl D, dfs_sound P gl D⟩
mutual
theorem vRes_cx {D : Deferred} {st : St} : ∀ {l : List ResultVar} {K : List AV → Prop}, vRes (cxD P ti tok gl D) st l K → vRes (cx P ti tok gl) st l K
  | [], _, h => h
  | .tmp t :: l, K, h => vRes_cx (l := l) (K := fun r => K (get st.T t :: r)) h
  | .cell a t :: l, K, h => by
    have e : (fun e : Eff => vRes (cxD P ti tok gl D) st l fun r => K (e.v :: r)) = fun e => vRes (cx P ti tok gl) st l fun r => K (e.v :: r) := by
      funext e; exact propext ⟨fun h => vRes_cx h, fun h => vRes_xc h⟩
    have h : vLoad (cxD P ti tok gl D) t (get st.T a) (geth st.H) (fun e => vRes (cxD P ti tok gl D) st l fun r => K (e.v :: r)) := h
    rw [e] at h
    exact h
theorem vRes_xc {D : Deferred} {st : St} : ∀ {l : List ResultVar} {K : List AV → Prop}, vRes (cx P ti tok gl) st l K → vRes (cxD P ti tok gl D) st l K
  | [], _, h => h
  | .tmp t :: l, K, h => vRes_xc (l := l) (K := fun r => K (get st.T t :: r)) h
  | .cell a t :: l, K, h => by
    have e : (fun e : Eff => vRes (cx P ti tok gl) st l fun r => K (e.v :: r)) = fun e => vRes (cxD P ti tok gl D) st l fun r => K (e.v :: r) := by
      funext e; exact propext ⟨fun h => vRes_xc h, fun h => vRes_cx h⟩
    have h : vLoad (cx P ti tok gl) t (get st.T a) (geth st.H) (fun e => vRes (cx P ti tok gl) st l fun r => K (e.v :: r)) := h
    rw [e] at h
    exact h
end
/-- what the caller gets -/
def Got (P : Program) (gl : List (Nat × Value)) (E0 : Emb) (w0 : World) (S0 : Sh) (res : AV) (Hout : List (Nat × Option Block)) (v : Value) (w : World) (S : Sh) : Prop :=
  ∃ E', RepA w E' res v ∧ HInv E' (geth Hout) w ∧ Ext (· < ([] : List Block).length) E0 w0 E' w ∧ (company P gl).ok S E' w ∧ (company P gl).le S0 w0.heap.size S
/-- a contract, by whatever shows the body in its own frame -/
theorem spec_base {f : FuncId} {fn : Func} {c : Code} {args : List AV} {res : AV} {Hout : List (Nat × Option Block)} (hf : P.funcs[f]? = some fn) (hn : (fn.name == "runtime.NumGoroutine") = false) (hb : fn.body = some c) (hl : args.length ≤ fn.ntmps)
    (h : ∀ E a w S, Inv (company P gl) fn.ntmps 0 E ⟨tin 0 args, [], 0⟩ a w S → a.defers = [] → ∀ (Post : Value → World → Prop) (cf : Frame) (cs : List Frame), (∀ v w' S', Got P gl E w S res Hout v w' S' → Ends P Post S' (G (cf.finish v) cs) w') → Ends P Post S (G ((base f).atR a [.code c]) (cf :: cs)) w) :
    Spec (cx P ti tok gl) f args [] res Hout := by
  refine ⟨⟨fn, hf, hn, by rw [hb]; rfl⟩, fun E w x vs hvl hvs hh hU hok => ?_⟩
  show CallsE P f vs.toArray w x _
  intro Post cf cs hc
  rw [enter_at _ hf hb, ← Frame.atR_of_none (show (base f).roundOf = none from rfl)]
  refine h E _ w x ⟨⟨fun t => ?_, by simp; omega, rfl⟩, ?_, fun b hb => by have := (hU b).1 hb; simp at this, fun b hb => by omega, hok⟩ rfl Post cf cs hc
  · simp only [get_tin, Nat.zero_le, if_true, Nat.sub_zero]
    cases ha : args[t]? with
    | none => exact .any _
    | some x =>
      have := hvs t x ha
      have hlt : t < vs.length := by rw [hvl]; exact (List.getElem?_eq_some_iff.1 ha).1
      have e : (vs.toArray ++ Array.replicate (fn.ntmps - vs.toArray.size) undef).getD t undef = vs.getD t undef := by
        simp only [Array.getD_eq_getD_getElem?]
        rw [Array.getElem?_append_left (by simpa using hlt)]
        simp [List.getD]
      rw [e]; exact this
  · have : geth ([] : List (Nat × Option Block)) = hin [] := by funext b; simp [geth, hin]
    simp only [this]; exact hh
theorem sR_taken {main : Bool} {b : Frame} {a : Act} {cs : List Frame} {w : World} {D : Nat} {todo : List Item} (ha : a.defers = [mk1 D]) (hD : w.heap[D]? = some (.deferred (some []))) :
    stepG P main (G { b.at a todo with mode := .returning } cs) w = .go (G { b.at { a with defers := [] } todo with mode := .returning } cs) (w.putObj D (.deferred none)) (seen P b.fn ((Instr.takeDeferred D).events P w #[])) := by
  have := run_takeDeferred (P := P) hD
  simp [G, stepG, unwind, Frame.at, ha, Sem.runT_eq, this, GStep.after]
theorem ev_taken {w : World} {D : Nat} (hD : w.heap[D]? = some (.deferred (some []))) : ∀ e ∈ (Instr.takeDeferred D).events P w #[], ∃ wr, e = ⟨.obj D, wr, false⟩ := fun e he => by
  have h1 : (getObj D).run P w = .ok (.deferred (some [])) w := by simp [getObj, Sem.run, hD]
  have h2 : (getObj D).events P w #[] = #[⟨.obj D, false, false⟩] := by simp [getObj, Sem.events, Sem.runT, hD, Obj.isChan, -Sem.runT_eq]
  have h3 : (setObj D (.deferred none)).run P w = .ok () (w.putObj D (.deferred none)) := by simp [setObj, Sem.run, hD, World.putObj]
  have h4 : (setObj D (.deferred none)).events P w #[] = #[⟨.obj D, true, false⟩] := by simp [setObj, Sem.events, Sem.runT, hD, Obj.isChan, -Sem.runT_eq]
  unfold Instr.takeDeferred at he
  rcases mem_seq he h1 with h0 | h0
  · rw [h2] at h0; exact ⟨_, by simpa using h0⟩
  rcases mem_seq h0 h3 with h0 | h0
  · rw [h4] at h0; exact ⟨_, by simpa using h0⟩
  · simp at h0
/-- the rest of a function, behind its one range over a function -/
theorem range_fin (hm : P.follows .mixedOrders = true) {f : FuncId} {fn : Func} (hf : P.funcs[f]? = some fn) {E0 E' : Emb} {w0 w' : World} {S0 S' : Sh} {tmps : Array Value} {D k nx : Nat} {T1 : List (Nat × AV)} {Hn Hout : List (Nat × Option Block)} {res : AV} {kc : Code}
    (hI : Inv (company P gl) fn.ntmps k E' ⟨T1, Hn, k⟩ ⟨tmps, []⟩ w' S') (hX : Ext (fun _ => False) E0 w0 E' w') (hle : (company P gl).le S0 w0.heap.size S') (hA : Apt D E' w') (hD0 : ∀ y, E0.fr y → y ≠ D) (hD : w'.heap[D]? = some (.deferred (some [])))
    (hv : vc (cxD P ti tok gl (mk1 D)) fn.ntmps 0 kc ⟨T1, Hn, k⟩ (Left (cxD P ti tok gl (mk1 D)) 0 nx fn.results res Hout)) {Post : Value → World → Prop} {cf : Frame} {cs : List Frame} (hc : ∀ v w' S', Got P gl E0 w0 S0 res Hout v w' S' → Ends P Post S' (G (cf.finish v) cs) w') :
    Ends P Post S' (G ((base f).atR (up (mk1 D) ⟨tmps, []⟩) [.code kc]) (cf :: cs)) w' := by
  have hI0 : Inv (dfs P gl (mk1 D)) fn.ntmps 0 E' ⟨T1, Hn, k⟩ ⟨tmps, []⟩ w' S' := ⟨hI.t, hI.h, hI.nx, fun b hb => by omega, hI.ok⟩
  have h1 := vc_ok (C := cxD P ti tok gl (mk1 D)) hm kc _ _ hv f E' _ w' S' hI0
  have leave : ∀ a'' w'' S'' E'' st'' todo, (vRes (cxD P ti tok gl (mk1 D)) st'' fn.results.toList fun r => ∃ l : List (Nat × Nat), renOk 0 nx l = true ∧ LeA (lk l) res (one r) ∧ AllH (lk l) (geth st''.H) Hout) → Inv (dfs P gl (mk1 D)) fn.ntmps 0 E'' st'' a'' w'' S'' → Ext (· < 0) E' w' E'' w'' → (company P gl).le S' w'.heap.size S'' →
      Ends P Post S'' (G { (base f).at (up (mk1 D) a'') todo with mode := .returning } (cf :: cs)) w'' := fun a'' w'' S'' E'' st'' todo hv2 hI2 hx2 hle2 => by
    have hI2 : Inv (company P gl) fn.ntmps 0 E'' st'' a'' w'' S'' := ⟨hI2.t, hI2.h, hI2.nx, hI2.k, hI2.ok⟩
    have hdf := hI2.t.df
    obtain ⟨tm2, df2⟩ := a''
    have hdf : df2 = [] := hdf
    subst hdf
    refine Ends.step rfl fun w₁ hr => ?_
    obtain ⟨hh1, hio1⟩ := (company_sound P gl).rel hr
    have hD1 : w₁.heap[D]? = some (.deferred (some [])) := by rw [hh1, hx2.keep D hA.fr]; exact hD
    have hA1 : Apt D E'' w₁ := (hA.ext hx2).size (by rw [hh1])
    obtain ⟨⟨S₂, eS2, hs2⟩, _⟩ := hI2.ok
    refine ⟨_, _, _, sR_taken (b := base f) rfl hD1, by rw [World.putObj_size]; exact Nat.le_refl _, fun e he => ?_, ?_⟩
    · obtain ⟨wr, rfl⟩ := ev_taken hD1 e (seen_sub e he)
      rw [eS2, World.putObj_size]; exact evL_obj hA1.lt
    have hI3 := (hI2.same hh1 hio1).putObj (o := .deferred none) hA1
    refine Ends.step rfl fun w₃ hr3 => ?_
    obtain ⟨hh3, hio3⟩ := (company_sound P gl).rel hr3
    have hI4 := hI3.same hh3 hio3
    obtain ⟨v, q1, q2, E2, q3, q4, q5, q6⟩ := left_run (C := cx P ti tok gl) f hI4 (vRes_cx hv2)
    refine ⟨_, w₃, _, stepG_leaveE (b := base f) rfl rfl hf q1, Nat.le_refl _, q2, hc v w₃ S'' ⟨E2, q3, q4, ?_, q6, ?_⟩⟩
    · have X1 : Ext (fun _ => False) E0 w0 E'' w'' := hX.trans' hx2 fun _ h => h.elim
      have X2 : Ext (fun _ => False) E0 w0 E'' (w₁.putObj D (.deferred none)) := ext_put (X1.trans (ext_same hh1 hio1)) hD0
      have X3 : Ext (fun _ => False) E0 w0 E2 w₃ := (X2.trans (ext_same hh3 hio3)).trans' q5 fun _ h => h.elim
      exact X3.weaken fun b hb => by simp at hb
    · exact (company P gl).leTrans hle hle2 hX.sz
  refine h1 Post (base f) [] (cf :: cs) rfl ⟨by simp [base], .inl rfl⟩ fun e a1 w'' S'' ⟨a'', e1, st'', E'', hL, hI2, hx2, hle2⟩ => ?_
  subst e1
  cases e with
  | normal =>
    show Ends P Post S'' (G ((base f).atR (up (mk1 D) a'') []) (cf :: cs)) w''
    rw [Frame.atR_of_none (show (base f).roundOf = none from rfl)]
    exact quiet rfl (fun _ => stepG_end) (leave a'' w'' S'' E'' st'' _ hL hI2 hx2 hle2)
  | ret =>
    intro todo
    rw [Frame.atR_of_none (show (base f).roundOf = none from rfl)]
    exact quiet rfl (fun _ => stepG_ret') (leave a'' w'' S'' E'' st'' _ hL hI2 hx2 hle2)
  | exit id => exact hL.elim
  | goto l => exact hL.elim
  | panic ch => exact hL.elim
  | outgrown => exact hL.elim
end
end Go.Proofs.YtdjoodbidcncaaaGreatDoor.AW

/- A function with one range over a function: its contract. -/
namespace Go.Proofs.YtdjoodbidcncaaaGreatDoor.AW
open Go Go.Conc
section
variable {P : Program} {ti : Nat → Option TI} {tok : ∀ t i, ti t = some i → TIok P t i} {gl : List (Nat × Value)}
/-- a piece of code ahead of the range -/
theorem at_vc (hm : P.follows .mixedOrders = true) {Post : Value → World → Prop} {f : FuncId} {N : Nat} {x : Code} {kk : List Item} {cs : List Frame} {st : St} {K : St → Prop} {E : Emb} {a : Act} {w : World} {S : Sh} (h : vc (cx P ti tok gl) N 0 x st fun e st' => e = .normal ∧ K st') (hI : Inv (company P gl) N 0 E st a w S)
    (next : ∀ st' E' a' w' S', K st' → Inv (company P gl) N 0 E' st' a' w' S' → Ext (fun _ => False) E w E' w' → (company P gl).le S w.heap.size S' → Ends P Post S' (G ((base f).atR a' kk) cs) w') : Ends P Post S (G ((base f).atR a (.code x :: kk)) cs) w := by
  have h1 := vc_ok (C := cx P ti tok gl) hm x _ _ h f E a w S hI
  refine h1 Post (base f) kk cs rfl ⟨by simp [base], .inl rfl⟩ fun e a' w' S' ⟨st', E', ⟨he, hk⟩, hI', hx', hle'⟩ => ?_
  subst he
  exact next st' E' a' w' S' hk hI' (hx'.weaken fun _ h => h.elim) hle'
/-- the state ahead of the range -/
def Rdy (P : Program) (gl : List (Nat × Value)) (fo : Operand) (g : FuncId) (xs : List (List AV)) (T1 : List (Nat × AV)) (I0 : List (Nat × Option Block)) (k : Nat) (st : St) : Prop :=
  ∃ caps0, ev (get st.T) fo = .fn (.func g) [] caps0 ∧ vExpL [] (geth st.H) caps0 fun caps ns => (nmL 0 caps = true ∧ IterE P gl g caps xs) ∧ ∃ l : List (Nat × Nat), Sub 0 l ⟨st.T, (gone ns).reverse ++ st.H, st.nx⟩ ⟨T1, I0, k⟩
theorem spec_range (hm : P.follows .mixedOrders = true) {f : FuncId} {fn : Func} {c0 c1 c2 c3 asg body : Code} {id : Nat} {fo : Operand} {ps : Array Tmp} {args : List AV} {res : AV} {Hout : List (Nat × Option Block)} {g : FuncId} {gn : Func} {gc : Code} {xs : List (List AV)}
    (I : Nat → List (Nat × Option Block)) (T1 : List (Nat × AV)) (k nx : Nat) (hf : P.funcs[f]? = some fn) (hn : (fn.name == "runtime.NumGoroutine") = false) (hb : fn.body = some (.seq c0 (.seq c1 (.seq (.seq c2 (.block id (.rangeFunc fo ps asg body))) c3)))) (hl : args.length ≤ fn.ntmps)
    (hnm : (fn.name == "loop.example/scrutineer/impl.each") = false) (hg : P.funcs[g]? = some gn) (hgn : (gn.name == "runtime.NumGoroutine") = false) (hgb : gn.body = some gc)
    (hv : vc (cx P ti tok gl) fn.ntmps 0 c0 ⟨tin 0 args, [], 0⟩ fun e st => e = .normal ∧ vc (cx P ti tok gl) fn.ntmps 0 c1 st fun e st => e = .normal ∧ vc (cx P ti tok gl) fn.ntmps 0 c2 st fun e st => e = .normal ∧ Rdy P gl fo g xs T1 (I 0) k st)
    (hdom : ∀ b, b < k → (geth (I 0) b).isSome = true) (hps : ∀ i (hi : i < xs.length), (xs[i]).length = ps.size) (hpN : ∀ p ∈ ps, p < fn.ntmps)
    (rounds : ∀ i (hi : i < xs.length), vc (cx P ti tok gl) fn.ntmps k asg ⟨pT ps.toList xs[i] T1, I i, k⟩ fun e st' => e = .normal ∧ vc (cx P ti tok gl) fn.ntmps k body st' fun e st'' => e = .normal ∧ AllH (lk (idl k)) (geth st''.H) (I (i + 1)))
    (fin : ∀ D, vc (cxD P ti tok gl D) fn.ntmps 0 c3 ⟨T1, I xs.length, k⟩ (Left (cxD P ti tok gl D) 0 nx fn.results res Hout)) : Spec (cx P ti tok gl) f args [] res Hout := by
  refine spec_base hf hn hb hl fun E a w S hI hd Post cf cs hc => ?_
  have hR : Rnd P f := fun f' hf' => by rw [hf] at hf'; cases hf'; exact hnm
  refine quiet rfl (fun _ => sR_seq) (at_vc hm hv hI fun st1 E1 a1 w1 S1 hv1 hI1 hX1 hle1 => ?_)
  refine quiet rfl (fun _ => sR_seq) (at_vc hm hv1 hI1 fun st2 E2 a2 w2 S2 hv2 hI2 hX2 hle2 => ?_)
  refine quiet rfl (fun _ => sR_seq) (quiet rfl (fun _ => sR_seq) (at_vc hm hv2 hI2 fun st3 E3 a3 w3 S3 ⟨caps0, e3, hx3⟩ hI3 hX3 hle3 => ?_))
  refine quiet rfl (fun _ => sR_block) ?_
  have X3 := (hX1.trans hX2).trans hX3
  have le3 := (company P gl).leTrans ((company P gl).leTrans hle1 hle2 hX1.sz) hle3 (hX1.trans hX2).sz
  refine Ends.range (ti := ti) (tok := tok) hm I T1 k rfl (by simp [base]) hR hI3 e3 hg hgn hgb hx3 hdom hps hpN rounds fun E' w' S' D q1 q2 q3 q4 q5 q6 => ?_
  refine quiet rfl (fun _ => sR_inBlock) ?_
  exact range_fin (ti := ti) (tok := tok) hm hf q1 (X3.trans q2) ((company P gl).leTrans le3 q3 X3.sz) q4 (fun y hy e => by have := hI.h.frlt y hy; have := X3.sz; omega) q6 (fin (mk1 D)) hc
end
end Go.Proofs.YtdjoodbidcncaaaGreatDoor.AW
