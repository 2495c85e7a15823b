/- impl.each: its contract. -/
import Derived.Test.YtdjoodbidcncaaaGreatDoorMAxX
import Derived.Test.YtdjoodbidcncaaaGreatDoorMAxEs
set_option linter.unusedVariables false
set_option linter.unusedSimpArgs false
namespace Go.Proofs.YtdjoodbidcncaaaGreatDoor.AW
open Go Go.Conc Go.ConcN Go.RowKit
set_option maxRecDepth 10000
/-- a contract, by whatever shows the body -/
theorem spec_by {C : Ctx} (he : C.M.Enters) {f : FuncId} {fn : Func} {c : Code} {args : List AV} {Hin : List Block} {res : AV} {Hout : List (Nat × Option Block)} (hf : C.P.funcs[f]? = some fn) (hn : (fn.name == "runtime.NumGoroutine") = false) (hb : fn.body = some c)
    (hl : args.length ≤ fn.ntmps) (h : ∀ E a w x, Inv C.M fn.ntmps Hin.length E ⟨tin 0 args, hin2 0 Hin, Hin.length⟩ a w x → C.M.Code f c (C.M.bodyM f fn fun v w' x' => ∃ E', RepA w' E' res v ∧ HInv E' (geth Hout) w' ∧ Ext (· < Hin.length) E w E' w' ∧ C.M.ok x' E' w' ∧ C.M.le x w.heap.size x') a w x) : Spec C f args Hin res Hout := by
  refine ⟨⟨fn, hf, hn, by rw [hb]; rfl⟩, fun E w x vs hvl hvs hh hU hok => he.callsOf hf hn hb (h E _ w x ?_)⟩
  refine ⟨⟨fun t => ?_, by simp; omega, rfl⟩, ?_, fun b hb => (hU b).1 hb, fun b hb => (hU b).2 hb, hok⟩
  · simp only [get_tin, Nat.zero_le, if_true, Nat.sub_zero]
    cases ha : args[t]? with
    | none => exact .any _
    | some x =>
      have := hvs t x ha
      have hlt : t < vs.length := by rw [hvl]; exact (List.getElem?_eq_some_iff.1 ha).1
      have e : (vs.toArray ++ Array.replicate (fn.ntmps - vs.toArray.size) undef).getD t undef = vs.getD t undef := by
        simp only [Array.getD_eq_getD_getElem?]
        rw [Array.getElem?_append_left (by simpa using hlt)]
        simp [List.getD]
      rw [e]; exact this
  · have : geth (hin2 0 Hin) = hin Hin := by funext b; rw [geth_hin2]; simp [hin]
    simp only [this]; exact hh
/-- where the workers are about to be started -/
def ETail (xs ys : List Int) (mk : FuncId) (e : Exit) (st : St) : Prop := e = .normal ∧ ∃ b0 b1 b2 i0 i1 i2, get st.T 3 = .ptr b0 i0 0 0 ∧ get st.T 4 = .ptr b1 i1 0 0 ∧ get st.T 5 = .ptr b2 i2 0 0 ∧ geth st.H b0 = some (.box [sl xs none]) ∧ geth st.H b1 = some (.box [sl ys none]) ∧ geth st.H b2 = some (.box [fnv mk])
theorem each_head (xs ys : List Int) (mk : FuncId) (hA : (xs.length : Int) ≤ 20 ∧ ∀ x ∈ xs, okE x) (hB : (ys.length : Int) ≤ 20 ∧ ∀ x ∈ ys, okE x) (hlen : xs.length = ys.length) :
    vc ctx 39 0 eachBody.l ⟨tin 0 [sl xs none, sl ys none, fnv mk], hin2 0 [], 0⟩ (fun e st => e = .normal ∧ vc ctx 39 0 eachBody.r.l st (ETail xs ys mk)) := by
  have la := rows_len ci xs
  have lb := rows_len ci ys
  have sA := ShareOk_s xs (by omega)
  have sB := ShareOk_s ys (by omega)
  rw [decide_eq_true hA] at sA
  rw [decide_eq_true hB] at sB
  simp only [eachBody, Tryz.f72, Option.getD_some, Code.r, Code.l]
  conv => whnf
  repeat' ((first | (with_reducible first | refine d_chk ?_ | refine Br.tt ?_ | refine Br.ff ?_ | refine Br.beq ?_ | refine Br.bne ?_ | refine Br.nt ?_ | refine Br.nf ?_ | refine d_wrap ?_ | refine d_rem ?_ | refine d_nat ?_ | refine d_get (by omega) ?_ | refine Br.yesd ?_ | refine Br.nod ?_ | refine Br.yesn ?_ | refine Br.nodn ?_ | refine d_le ?_ | refine d_lt ?_ | refine And.intro ?_ ?_ | exact trivial | exact .inr rfl | rfl | refine sc_int | refine sc_bt ?_ | refine sc_bf ?_ | refine sc_bb ?_ | refine sc_bh ?_ | refine sc_ih ?_) | refine callW0 sA rfl trivial ?_ | refine callW0 sB rfl trivial ?_ | with_reducible refine Br.dec (fun _ => ?_) (fun _ => ?_) | with_reducible refine Br.decn (fun _ => ?_) (fun _ => ?_) | with_reducible refine d_left [] ?_ ?_ | exact rfl | exact Nat.le_of_ble_eq_true rfl | (refine Nat.le_of_eq ?_; simp [rows, seqI]; done) | refine call_go rfl rfl [] ?_ | (refine Hid.mk ?_; first | decide | omega | (simp <;> omega) | (intro e; subst e; omega) | (intro e; subst e; simp_all; done) | exact Prod.ext (by omega) (by omega))) <;> conv => whnf)
  exact ⟨_, _, _, _, _, _, rfl, rfl, rfl, rfl, rfl, rfl⟩
theorem plain_cell {w : World} {r : Nat} {cells : Array Value} (h : Plain w r cells) {o : Nat} (ho : o < cells.size) : w.cell? ⟨r, o, none⟩ = some (cells.getD o undef) := by
  obtain ⟨ty, lo, hi, h1, h2⟩ := h
  have := h2 o ho
  simp [World.cell?, h1, this, ho, Array.getD_eq_getD_getElem?]
theorem box_sl {E : Emb} {w : World} {b : Nat} {l : List Int} (h : RepB w E b (.box [sl l none])) : ∃ aa ca, w.cell? ⟨E.blk b, 0, none⟩ = some (.slice aa l.length ca) ∧ (0 < l.length → ∃ r o, aa = some ⟨r, o, none⟩ ∧ E.pr r ∧ ∀ k (hk : k < l.length), w.cell? ⟨r, o + k, none⟩ = some (.int .i64 l[k])) := by
  obtain ⟨_, cells, hp, _, hl, hc⟩ := h
  have h0 := hc 0 _ rfl
  have e := plain_cell hp (o := 0) (by simp at hl; omega)
  generalize cells.getD 0 undef = v at h0 e
  cases h0 with
  | cv c v h0 =>
    cases h0 with
    | ro st es cap a n c vs hn hcc hcap hst hcell hrep =>
      have hn : n = l.length := by rw [hn]; simp [rows]
      subst hn
      refine ⟨a, c, e, fun hpos => ?_⟩
      have g : ∀ k (hk : k < l.length), (rows ci l)[k]? = some (ci l[k]) := fun k hk => rows_get hk
      obtain ⟨ad, rfl, hs, hpr, _⟩ := hcell 0 _ (g 0 hpos)
      obtain ⟨r, o, sp⟩ := ad
      simp only at hs hpr
      subst hs
      refine ⟨r, o, rfl, hpr, fun k hk => ?_⟩
      obtain ⟨ad, e1, _, _, h3⟩ := hcell k _ (g k hk)
      cases e1
      have h4 := h3 0 _ rfl
      have h5 := hrep k _ 0 _ (g k hk) rfl
      generalize vs k 0 = u at h4 h5
      cases h5
      simpa [cellAt] using h4
theorem box_fn {E : Emb} {w : World} {b : Nat} {f : FuncId} (h : RepB w E b (.box [fnv f])) : w.cell? ⟨E.blk b, 0, none⟩ = some (.func (.func f) #[] #[]) := by
  obtain ⟨_, cells, hp, _, hl, hc⟩ := h
  have h0 := hc 0 _ rfl
  have e := plain_cell hp (o := 0) (by simp at hl; omega)
  generalize cells.getD 0 undef = v at h0 e
  cases h0 with
  | cv c v h0 => cases h0; exact e
end Go.Proofs.YtdjoodbidcncaaaGreatDoor.AW

/- impl.each: its contract, joined. -/
namespace Go.Proofs.YtdjoodbidcncaaaGreatDoor.AW
open Go Go.Conc Go.ConcN Go.RowKit
open Go.ConcR (Payload)
set_option maxRecDepth 10000
theorem box_sl2 {E : Emb} {w : World} {b : Nat} {l : List Int} (N : Nat) (h : RepB w E b (.box [sl l none])) : ∃ aa ca r o, w.cell? ⟨E.blk b, 0, none⟩ = some (.slice aa l.length ca) ∧ (0 < l.length → aa = some ⟨r, o, none⟩ ∧ E.pr r) ∧ (l.length = 0 → r = N) ∧ ∀ k (hk : k < l.length), w.cell? ⟨r, o + k, none⟩ = some (.int .i64 l[k]) := by
  obtain ⟨aa, ca, h1, h2⟩ := box_sl h
  by_cases hp : 0 < l.length
  · obtain ⟨r, o, h3, h4, h5⟩ := h2 hp
    exact ⟨aa, ca, r, o, h1, fun _ => ⟨h3, h4⟩, fun e => by omega, h5⟩
  · exact ⟨aa, ca, N, 0, h1, fun e => absurd e hp, fun _ => rfl, fun k hk => by omega⟩
theorem getD_some {T : Array Value} {t : Nat} {v : Value} (ht : t < T.size) (h : T.getD t undef = v) : T[t]? = some v := by
  rw [Array.getD_eq_getD_getElem?, Array.getElem?_eq_getElem ht] at h
  rw [Array.getElem?_eq_getElem ht]
  simpa using h
theorem each_s (xs ys zs : List Int) (mk : FuncId) (hA : (xs.length : Int) ≤ 20 ∧ ∀ x ∈ xs, okE x) (hB : (ys.length : Int) ≤ 20 ∧ ∀ x ∈ ys, okE x) (hlen : xs.length = ys.length) (hz : zs.length = xs.length)
    (hfn : ∀ k, k < xs.length → WFn Tryz.prog mk (xs.getD k 0) (ys.getD k 0) (zs.getD k 0)) : Spec ctx 72 [sl xs none, sl ys none, fnv mk] [] (.tup [.own 0 1 0 zs.length (some zs.length), bv true]) [(0, some (.row 1 (rows ci zs)))] := by
  refine spec_by (C := ctx) ctx_enters Tryz.func72 (by rfl) (c := eachBody) (by rfl) (Nat.le_of_ble_eq_true rfl) fun E a w x hI => ?_
  rw [show eachBody = .seq eachBody.l (.seq eachBody.r.l eTailC) by rfl]
  refine ctx.sound.seq (ctx.sound.mono (vc_ok ctx_mixed _ _ _ (each_head xs ys mk hA hB hlen) _ E a w x hI) fun e a1 w1 x1 ⟨st1, E1, ⟨he, hv⟩, hI1, hx1, hle1⟩ => ?_)
  subst he
  refine ctx.sound.seq (ctx.sound.mono (vc_ok ctx_mixed _ _ _ hv _ E1 a1 w1 x1 hI1) fun e a2 w2 x2 ⟨st2, E2, ⟨he, b0, b1, b2, i0, i1, i2, g3, g4, g5, k0, k1, k2⟩, hI2, hx2, hle2⟩ => ?_)
  subst he
  have hU : ∀ b, ¬ E.U b := fun b hb => by have := hI.nx b hb; simp at this
  obtain ⟨⟨S₀, rfl, hsafe⟩, hgl⟩ := hI2.ok
  obtain ⟨T, d⟩ := a2
  have hd : d = [] := hI2.t.df
  subst hd
  have hsz : T.size = 39 := hI2.t.sz
  have t3 := hI2.t.tm 3
  have t4 := hI2.t.tm 4
  have t5 := hI2.t.tm 5
  rw [g3] at t3; rw [g4] at t4; rw [g5] at t5
  obtain ⟨u0, e3⟩ := rep_ptr t3
  obtain ⟨u1, e4⟩ := rep_ptr t4
  obtain ⟨u2, e5⟩ := rep_ptr t5
  have n0 := rep_ptr_g t3
  have n1 := rep_ptr_g t4
  have n2 := rep_ptr_g t5
  generalize hN : w2.heap.size = N
  obtain ⟨aa, ca, ra, oa, av, a1', a2', xv⟩ := box_sl2 (N + 1) (hI2.h.hp b0 _ k0)
  obtain ⟨ab, cb, rb, ob, bv', b1', b2', yv⟩ := box_sl2 (N + 1) (hI2.h.hp b1 _ k1)
  have fv := box_fn (hI2.h.hp b2 _ k2)
  have hnl : xs.length < 2147483648 := by omega
  have bl : ∀ b, E2.U b → ¬ E2.gh b → E2.blk b < N ∧ ¬ S₀ (E2.blk b) := fun b hu hg => ⟨hN ▸ hsafe.ul b hu hg, hsafe.un b hu hg⟩
  have pl : ∀ r, E2.pr r → r < N ∧ ¬ S₀ r := fun r hr => ⟨hN ▸ hI2.h.frlt r (hI2.h.prfr r hr), hsafe.pr r hr⟩
  let q : WP := { Bf := E2.blk b2, Ba := E2.blk b0, Bb := E2.blk b1, Bo := N + 1, mkf := mk, ra := ra, oa := oa, ca := ca, rb := rb, ob := ob, cb := cb, xs := fun k => xs.getD k 0, ys := fun k => ys.getD k 0, zs := fun k => zs.getD k 0 }
  have hra : (ra < N ∧ ¬ S₀ ra) ∨ ra = N + 1 := by
    rcases Nat.eq_zero_or_pos xs.length with h | h
    · exact .inr (a2' h)
    · exact .inl (pl _ (a1' h).2)
  have hrb : (rb < N ∧ ¬ S₀ rb) ∨ rb = N + 1 := by
    rcases Nat.eq_zero_or_pos ys.length with h | h
    · exact .inr (b2' h)
    · exact .inl (pl _ (b1' h).2)
  have hl : ELie S₀ q N xs.length := by
    refine ⟨fun r hr => hN ▸ hsafe.lt r hr, fun b hb => ?_, rfl, hnl⟩
    rcases hb with rfl | rfl | rfl | rfl | rfl | rfl
    · exact .inl (bl _ u2 n2)
    · exact .inl (bl _ u0 n0)
    · exact .inl (bl _ u1 n1)
    · exact .inr rfl
    · exact hra
    · exact hrb
  rw [← hlen] at bv'
  have hEA : EA w2 q N xs.length 0 (.slice aa xs.length q.ca) (.slice ab xs.length q.cb) w2 := by
    refine ⟨⟨rfl, rfl, rfl⟩, fun _ _ => rfl, hN, fv, av, bv', fun h => by rw [(a1' h).1], fun h => by rw [(b1' (by omega)).1], fun k hk => ?_, fun k hk => ?_, (bl _ u2 n2).1, (bl _ u0 n0).1, (bl _ u1 n1).1, fun h => ⟨(pl _ (a1' h).2).1, (pl _ (b1' (by omega)).2).1⟩⟩
    · have := xv k hk
      simpa [q, List.getD, hk] using this
    · have := yv k (by omega)
      simpa [q, List.getD, show k < ys.length by omega] using this
  show wpE Tryz.prog 72 eTailC _ ⟨T, []⟩ w2 (shunOf S₀)
  intro Post b k cs hb hk hc
  have hro : b.roundOf = none := hk.2.resolve_right fun h => by
    have := h _ (hb ▸ Tryz.func72)
    exact absurd this (by simp [Tryz.f72])
  have hk := hk.1
  rw [Frame.atR_of_none hro]
  refine eTail (q := q) hl hk hb hfn (fun T' w' s1 s2 s3 hEF todo => ?_) T hsz (getD_some (by omega) (by simpa using e3)) (getD_some (by omega) (by simpa using e4)) (getD_some (by omega) (by simpa using e5)) (bl _ u0 n0).2 w2 hEA
  rw [← Frame.atR_of_none hro]
  refine hc .ret ⟨T', []⟩ w' (shunOf (eSh S₀ N)) ⟨rfl, fun w₁ hrel => ?_⟩ todo
  have hN1 : w.heap.size ≤ N := hN ▸ Nat.le_trans hx1.sz hx2.sz
  have hE1 := hEF.rely hl hrel
  obtain ⟨hK, hhas, hpay⟩ := hE1
  have g6 : T'.getD 6 undef = .slice (some ⟨N, 0, none⟩) xs.length xs.length := by rw [Array.getD_eq_getD_getElem?, s2]; rfl
  have g7 : T'.getD 7 undef = .bool true := by rw [Array.getD_eq_getD_getElem?, s3]; rfl
  have efr : ∀ r, E.fr r → E2.fr r := fun r hr => hx2.fr r (hx1.fr r hr)
  have frl : ∀ r, E.fr r → r < N := fun r hr => hN ▸ hI2.h.frlt r (efr r hr)
  let E' : Emb := { E with blk := fun _ => N, sz := fun _ => xs.length, U := fun b => b = 0, gh := fun _ => False }
  obtain ⟨arr, hp1, hp2⟩ := hpay
  have hplain : Plain w₁ N arr := ⟨3, 0, 0, hp1, fun o _ h => by omega⟩
  refine ⟨.tuple #[.slice (some ⟨N, 0, none⟩) xs.length xs.length, .bool true], ?_, ?_, E', ?_, ?_, ?_, ?_, ?_⟩
  · simp [results, Tryz.f72, s2, s3]
  · have : (results Tryz.f72 T').events Tryz.prog w₁ #[] = #[] := by simp [results, Tryz.f72]
    show ∀ e ∈ seen Tryz.prog 72 ((results Tryz.f72 T').events Tryz.prog w₁ #[]), EvL _ _ e
    rw [this, seen_none]
    exact fun e he => by simp at he
  · refine .tup _ _ rfl fun k x hx => ?_
    match k, hx with
    | 0, hx =>
      simp only [List.getElem?_cons_zero, Option.some.injEq] at hx
      subst hx
      rw [hz]
      exact .own (E := E') 0 1 0 xs.length (some xs.length) xs.length rfl (fun h => h) (Nat.le_refl _) (fun x e => Option.some.inj e) (by simp [E'])
    | 1, hx =>
      simp at hx
      subst hx
      exact .cv _ _ (.sc _ rfl)
    | k + 2, hx => simp at hx
  · have h0 : ∀ b B, geth [(0, some (Block.row 1 (rows ci zs)))] b = some B → b = 0 ∧ B = .row 1 (rows ci zs) := fun b B hb => by
      cases b with
      | zero => simp [geth] at hb; exact ⟨rfl, hb.symm⟩
      | succ b =>
        have hb : (none : Option Block) = some B := hb
        cases hb
    refine ⟨fun b B hb => ?_, fun b B hb => ⟨(h0 b B hb).1, fun _ hr => by have := frl N hr; omega⟩, fun b b' B B' hb hb' _ _ _ => by rw [(h0 b B hb).1, (h0 b' B' hb').1], hI.h.prfr, fun r hr => ?_⟩
    · obtain ⟨rfl, rfl⟩ := h0 b B hb
      refine .inr ⟨fun h => h, arr, hplain, hp2, by simp [rows, hz, hp2], by intro e he; simp [rows] at he; obtain ⟨_, _, rfl⟩ := he; rfl, fun i e k x he hx => ?_⟩
      have hi : i < zs.length := by have := (List.getElem?_eq_some_iff.1 he).1; simpa [rows] using this
      rw [rows_get hi] at he
      cases he
      cases k with
      | zero =>
        simp at hx
        subst hx
        have := hhas i (by omega)
        rw [Has, plain_cell hplain (by omega)] at this
        have e2 : zs.getD i 0 = zs[i] := by simp [List.getD, hi]
        simp only [q, e2, Option.some.injEq] at this
        simp only [Nat.mul_one, Nat.add_zero]
        rw [this]
        exact .sc _ rfl
      | succ k => simp at hx
    · rw [hK.size]
      have := frl r hr; omega
  · refine ⟨fun r hr => (hK.low r (frl r hr)).trans ((hx2.keep r (hx1.fr r hr)).trans (hx1.keep r hr)), fun r hr => hr, fun r hr => hr, by rw [hK.size]; omega, fun b hb => absurd hb (by simp), fun b hb _ => .inl ⟨hN1, by rw [hK.size]; show N < _; omega⟩, fun r hr => .inl hr, (hx1.io.trans hx2.io).trans hK.io⟩
  · refine ⟨⟨eSh S₀ N, rfl, fun r hr hs => ?_, fun b hb _ hs => ?_, fun r hs => ?_, fun b hb _ => by rw [hK.size]; show N < _; omega⟩, fun p hp => ?_⟩
    · have := pl r (hx2.pr r (hx1.pr r hr))
      rcases hs with hs | hs
      · exact this.2 hs
      · omega
    · rcases hs with hs | hs
      · have : N < N := hl.sh _ hs; omega
      · have : N = N + 2 := hs; omega
    · rw [hK.size]
      rcases hs with hs | hs
      · have := hl.sh _ hs; omega
      · omega
    · obtain ⟨k1, k2, k3⟩ := hI.ok.2 p hp
      refine ⟨k1, k2, ?_⟩
      rw [← k3]
      exact cellAt_congr ((hK.low p.1 (frl p.1 k2)).trans ((hx2.keep p.1 (hx1.fr p.1 k2)).trans (hx1.keep p.1 k2))) _
  · exact fun r ⟨a, e, hs⟩ => by
      cases e
      rcases hs with hs | hs
      · exact ctx.M.leTrans hle1 hle2 hx1.sz r ⟨_, rfl, hs⟩
      · right
        have : r = N + 2 := hs
        omega
end Go.Proofs.YtdjoodbidcncaaaGreatDoor.AW

/- Shares: sums, differences. -/
namespace Go.Proofs.YtdjoodbidcncaaaGreatDoor.AW
open Go Go.Conc
set_option maxRecDepth 10000
abbrev isSh (l : List Int) : Prop := (l.length : Int) ≤ 20 ∧ ∀ x ∈ l, okE x
theorem each_bad (xs ys : List Int) (mk : FuncId) (h1 : xs.length ≤ 4611686018427387904) (h2 : ys.length ≤ 4611686018427387904) (h : ¬ (isSh xs ∧ isSh ys ∧ xs.length = ys.length)) : Spec ctx 72 [sl xs none, sl ys none, fnv mk] [] (.tup [nilS, bv false]) [] := by
  have la := rows_len ci xs
  have lb := rows_len ci ys
  have sA := ShareOk_s xs h1
  have sB := ShareOk_s ys h2
  by_cases hA : isSh xs
  · rw [decide_eq_true hA] at sA
    by_cases hB : isSh ys
    · rw [decide_eq_true hB] at sB
      have hlen : ¬ xs.length = ys.length := fun e => h ⟨hA, hB, e⟩
      refine spec_mk ctx_mixed ctx_enters 0 Tryz.func72 rfl rfl (Nat.le_of_ble_eq_true rfl) 0 rfl ?_; conv => whnf
      repeat' ((first | (with_reducible first | refine d_chk ?_ | refine Br.tt ?_ | refine Br.ff ?_ | refine Br.beq ?_ | refine Br.bne ?_ | refine Br.nt ?_ | refine Br.nf ?_ | refine d_wrap ?_ | refine d_rem ?_ | refine d_nat ?_ | refine d_get (by omega) ?_ | refine Br.yesd ?_ | refine Br.nod ?_ | refine Br.yesn ?_ | refine Br.nodn ?_ | refine d_le ?_ | refine d_lt ?_ | refine And.intro ?_ ?_ | exact trivial | exact .inr rfl | rfl | refine sc_int | refine sc_bt ?_ | refine sc_bf ?_ | refine sc_bb ?_ | refine sc_bh ?_ | refine sc_ih ?_) | refine callW0 sA rfl trivial ?_ | refine callW0 sB rfl trivial ?_ | refine Br.yesd ?_ (by rw [la, lb]; omega) | with_reducible refine Br.dec (fun _ => ?_) (fun _ => ?_) | with_reducible refine Br.decn (fun _ => ?_) (fun _ => ?_) | with_reducible refine d_left [] ?_ ?_ | exact rfl | exact Nat.le_of_ble_eq_true rfl | (refine Nat.le_of_eq ?_; simp [rows, seqI]; done) | refine call_go rfl rfl [] ?_ | (refine Hid.mk ?_; first | decide | omega | (simp <;> omega) | (intro e; subst e; omega) | (intro e; subst e; simp_all; done) | exact Prod.ext (by omega) (by omega))) <;> conv => whnf)
    · rw [decide_eq_false hB] at sB
      refine spec_mk ctx_mixed ctx_enters 0 Tryz.func72 rfl rfl (Nat.le_of_ble_eq_true rfl) 0 rfl ?_; conv => whnf
      repeat' ((first | (with_reducible first | refine d_chk ?_ | refine Br.tt ?_ | refine Br.ff ?_ | refine Br.beq ?_ | refine Br.bne ?_ | refine Br.nt ?_ | refine Br.nf ?_ | refine d_wrap ?_ | refine d_rem ?_ | refine d_nat ?_ | refine d_get (by omega) ?_ | refine Br.yesd ?_ | refine Br.nod ?_ | refine Br.yesn ?_ | refine Br.nodn ?_ | refine d_le ?_ | refine d_lt ?_ | refine And.intro ?_ ?_ | exact trivial | exact .inr rfl | rfl | refine sc_int | refine sc_bt ?_ | refine sc_bf ?_ | refine sc_bb ?_ | refine sc_bh ?_ | refine sc_ih ?_) | refine callW0 sA rfl trivial ?_ | refine callW0 sB rfl trivial ?_ | with_reducible refine Br.dec (fun _ => ?_) (fun _ => ?_) | with_reducible refine Br.decn (fun _ => ?_) (fun _ => ?_) | with_reducible refine d_left [] ?_ ?_ | exact rfl | exact Nat.le_of_ble_eq_true rfl | (refine Nat.le_of_eq ?_; simp [rows, seqI]; done) | refine call_go rfl rfl [] ?_ | (refine Hid.mk ?_; first | decide | omega | (simp <;> omega) | (intro e; subst e; omega) | (intro e; subst e; simp_all; done) | exact Prod.ext (by omega) (by omega))) <;> conv => whnf)
  · rw [decide_eq_false hA] at sA
    refine spec_mk ctx_mixed ctx_enters 0 Tryz.func72 rfl rfl (Nat.le_of_ble_eq_true rfl) 0 rfl ?_; conv => whnf
    repeat' ((first | (with_reducible first | refine d_chk ?_ | refine Br.tt ?_ | refine Br.ff ?_ | refine Br.beq ?_ | refine Br.bne ?_ | refine Br.nt ?_ | refine Br.nf ?_ | refine d_wrap ?_ | refine d_rem ?_ | refine d_nat ?_ | refine d_get (by omega) ?_ | refine Br.yesd ?_ | refine Br.nod ?_ | refine Br.yesn ?_ | refine Br.nodn ?_ | refine d_le ?_ | refine d_lt ?_ | refine And.intro ?_ ?_ | exact trivial | exact .inr rfl | rfl | refine sc_int | refine sc_bt ?_ | refine sc_bf ?_ | refine sc_bb ?_ | refine sc_bh ?_ | refine sc_ih ?_) | refine callW0 sA rfl trivial ?_ | refine callW0 sB rfl trivial ?_ | with_reducible refine Br.dec (fun _ => ?_) (fun _ => ?_) | with_reducible refine Br.decn (fun _ => ?_) (fun _ => ?_) | with_reducible refine d_left [] ?_ ?_ | exact rfl | exact Nat.le_of_ble_eq_true rfl | (refine Nat.le_of_eq ?_; simp [rows, seqI]; done) | refine call_go rfl rfl [] ?_ | (refine Hid.mk ?_; first | decide | omega | (simp <;> omega) | (intro e; subst e; omega) | (intro e; subst e; simp_all; done) | exact Prod.ext (by omega) (by omega))) <;> conv => whnf)
def elm (z : Int) : Int := (IntKind.i64.wrap ((IntKind.i64.wrap z).tmod 31 + 31)).tmod 31
def zipE (f : Int → Int → Int) (xs ys : List Int) : List Int := List.zipWith f xs ys
theorem zipE_len {f : Int → Int → Int} {xs ys : List Int} (h : xs.length = ys.length) : (zipE f xs ys).length = xs.length := by simp [zipE, h]
theorem zipE_get {f : Int → Int → Int} {xs ys : List Int} (h : xs.length = ys.length) {k : Nat} (hk : k < xs.length) : (zipE f xs ys).getD k 0 = f (xs.getD k 0) (ys.getD k 0) := by
  have h2 : k < ys.length := by omega
  have h3 : k < (List.zipWith f xs ys).length := by simp; omega
  simp only [zipE, List.getD, List.getElem?_eq_getElem h3, List.getElem?_eq_getElem hk, List.getElem?_eq_getElem h2, Option.getD_some, List.getElem_zipWith]
theorem each_plus (xs ys : List Int) (hA : isSh xs) (hB : isSh ys) (h : xs.length = ys.length) : Spec ctx 72 [sl xs none, sl ys none, fnv 73] [] (.tup [.own 0 1 0 (zipE (fun x y => elm (x + y)) xs ys).length (some (zipE (fun x y => elm (x + y)) xs ys).length), bv true]) [(0, some (.row 1 (rows ci (zipE (fun x y => elm (x + y)) xs ys))))] :=
  each_s xs ys _ _ hA hB h (zipE_len h) fun k hk => by rw [zipE_get h hk]; exact wfn_plus _ _
theorem each_minus (xs ys : List Int) (hA : isSh xs) (hB : isSh ys) (h : xs.length = ys.length) : Spec ctx 72 [sl xs none, sl ys none, fnv 187] [] (.tup [.own 0 1 0 (zipE (fun x y => elm (x - y)) xs ys).length (some (zipE (fun x y => elm (x - y)) xs ys).length), bv true]) [(0, some (.row 1 (rows ci (zipE (fun x y => elm (x - y)) xs ys))))] :=
  each_s xs ys _ _ hA hB h (zipE_len h) fun k hk => by rw [zipE_get h hk]; exact wfn_minus _ _
theorem each_snd (xs ys : List Int) (hA : isSh xs) (hB : isSh ys) (h : xs.length = ys.length) : Spec ctx 72 [sl xs none, sl ys none, fnv 193] [] (.tup [.own 0 1 0 (zipE (fun _ y => y) xs ys).length (some (zipE (fun _ y => y) xs ys).length), bv true]) [(0, some (.row 1 (rows ci (zipE (fun _ y => y) xs ys))))] :=
  each_s xs ys _ _ hA hB h (zipE_len h) fun k hk => by rw [zipE_get h hk]; exact wfn_snd _ _
theorem ShareSum_s (xs ys : List Int) (hA : isSh xs) (hB : isSh ys) (h : xs.length = ys.length) : Spec ctx 22 [sl xs none, sl ys none] [] (.tup [.own 0 1 0 (zipE (fun x y => elm (x + y)) xs ys).length (some (zipE (fun x y => elm (x + y)) xs ys).length), bv true]) [(0, some (.row 1 (rows ci (zipE (fun x y => elm (x + y)) xs ys))))] := by
  refine spec_mk ctx_mixed ctx_enters 1 Tryz.func22 rfl rfl (Nat.le_of_ble_eq_true rfl) 0 rfl ?_; conv => whnf
  repeat' ((first | (with_reducible first | refine d_chk ?_ | refine Br.tt ?_ | refine Br.ff ?_ | refine Br.beq ?_ | refine Br.bne ?_ | refine Br.nt ?_ | refine Br.nf ?_ | refine d_wrap ?_ | refine d_rem ?_ | refine d_nat ?_ | refine d_get (by omega) ?_ | refine Br.yesd ?_ | refine Br.nod ?_ | refine Br.yesn ?_ | refine Br.nodn ?_ | refine d_le ?_ | refine d_lt ?_ | refine And.intro ?_ ?_ | exact trivial | exact .inr rfl | rfl | refine sc_int | refine sc_bt ?_ | refine sc_bf ?_ | refine sc_bb ?_ | refine sc_bh ?_ | refine sc_ih ?_) | refine callWm (each_plus xs ys hA hB h) 1 rfl ?_ | with_reducible refine d_left [(0, 0)] ?_ ?_ | with_reducible refine Br.dec (fun _ => ?_) (fun _ => ?_) | with_reducible refine Br.decn (fun _ => ?_) (fun _ => ?_) | with_reducible refine d_left [] ?_ ?_ | exact rfl | exact Nat.le_of_ble_eq_true rfl | (refine Nat.le_of_eq ?_; simp [rows, seqI]; done) | refine call_go rfl rfl [] ?_ | (refine Hid.mk ?_; first | decide | omega | (simp <;> omega) | (intro e; subst e; omega) | (intro e; subst e; simp_all; done) | exact Prod.ext (by omega) (by omega))) <;> conv => whnf)
theorem ShareMake_s (xs ys : List Int) (hA : isSh xs) (hB : isSh ys) (h : xs.length = ys.length) : Spec ctx 145 [sl xs none, sl ys none] [] (.tup [.own 0 1 0 (zipE (fun x y => elm (x - y)) xs ys).length (some (zipE (fun x y => elm (x - y)) xs ys).length), .own 1 1 0 (zipE (fun _ y => y) xs ys).length (some (zipE (fun _ y => y) xs ys).length), bv true]) [(0, some (.row 1 (rows ci (zipE (fun x y => elm (x - y)) xs ys)))), (1, some (.row 1 (rows ci (zipE (fun _ y => y) xs ys))))] := by
  refine spec_mk ctx_mixed ctx_enters 2 Tryz.func145 rfl rfl (Nat.le_of_ble_eq_true rfl) 0 rfl ?_; conv => whnf
  repeat' ((first | (with_reducible first | refine d_chk ?_ | refine Br.tt ?_ | refine Br.ff ?_ | refine Br.beq ?_ | refine Br.bne ?_ | refine Br.nt ?_ | refine Br.nf ?_ | refine d_wrap ?_ | refine d_rem ?_ | refine d_nat ?_ | refine d_get (by omega) ?_ | refine Br.yesd ?_ | refine Br.nod ?_ | refine Br.yesn ?_ | refine Br.nodn ?_ | refine d_le ?_ | refine d_lt ?_ | refine And.intro ?_ ?_ | exact trivial | exact .inr rfl | rfl | refine sc_int | refine sc_bt ?_ | refine sc_bf ?_ | refine sc_bb ?_ | refine sc_bh ?_ | refine sc_ih ?_) | refine callWm (each_minus xs ys hA hB h) 1 rfl ?_ | refine callWm (each_snd xs ys hA hB h) 1 rfl ?_ | with_reducible refine d_left [(0, 0), (1, 1)] ?_ ?_ | with_reducible refine Br.dec (fun _ => ?_) (fun _ => ?_) | with_reducible refine Br.decn (fun _ => ?_) (fun _ => ?_) | with_reducible refine d_left [] ?_ ?_ | exact rfl | exact Nat.le_of_ble_eq_true rfl | (refine Nat.le_of_eq ?_; simp [rows, seqI]; done) | refine call_go rfl rfl [] ?_ | (refine Hid.mk ?_; first | decide | omega | (simp <;> omega) | (intro e; subst e; omega) | (intro e; subst e; simp_all; done) | exact Prod.ext (by omega) (by omega))) <;> conv => whnf)
theorem ShareSum_bad (xs ys : List Int) (h1 : xs.length ≤ 4611686018427387904) (h2 : ys.length ≤ 4611686018427387904) (h : ¬ (isSh xs ∧ isSh ys ∧ xs.length = ys.length)) : Spec ctx 22 [sl xs none, sl ys none] [] (.tup [nilS, bv false]) [] := by
  refine spec_mk ctx_mixed ctx_enters 0 Tryz.func22 rfl rfl (Nat.le_of_ble_eq_true rfl) 0 rfl ?_; conv => whnf
  repeat' ((first | (with_reducible first | refine d_chk ?_ | refine Br.tt ?_ | refine Br.ff ?_ | refine Br.beq ?_ | refine Br.bne ?_ | refine Br.nt ?_ | refine Br.nf ?_ | refine d_wrap ?_ | refine d_rem ?_ | refine d_nat ?_ | refine d_get (by omega) ?_ | refine Br.yesd ?_ | refine Br.nod ?_ | refine Br.yesn ?_ | refine Br.nodn ?_ | refine d_le ?_ | refine d_lt ?_ | refine And.intro ?_ ?_ | exact trivial | exact .inr rfl | rfl | refine sc_int | refine sc_bt ?_ | refine sc_bf ?_ | refine sc_bb ?_ | refine sc_bh ?_ | refine sc_ih ?_) | refine callW0 (each_bad xs ys _ h1 h2 h) rfl ⟨trivial, trivial, trivial⟩ ?_ | with_reducible refine Br.dec (fun _ => ?_) (fun _ => ?_) | with_reducible refine Br.decn (fun _ => ?_) (fun _ => ?_) | with_reducible refine d_left [] ?_ ?_ | exact rfl | exact Nat.le_of_ble_eq_true rfl | (refine Nat.le_of_eq ?_; simp [rows, seqI]; done) | refine call_go rfl rfl [] ?_ | (refine Hid.mk ?_; first | decide | omega | (simp <;> omega) | (intro e; subst e; omega) | (intro e; subst e; simp_all; done) | exact Prod.ext (by omega) (by omega))) <;> conv => whnf)
theorem ShareMake_bad (xs ys : List Int) (h1 : xs.length ≤ 4611686018427387904) (h2 : ys.length ≤ 4611686018427387904) (h : ¬ (isSh xs ∧ isSh ys ∧ xs.length = ys.length)) : Spec ctx 145 [sl xs none, sl ys none] [] (.tup [nilS, nilS, bv false]) [] := by
  refine spec_mk ctx_mixed ctx_enters 0 Tryz.func145 rfl rfl (Nat.le_of_ble_eq_true rfl) 0 rfl ?_; conv => whnf
  repeat' ((first | (with_reducible first | refine d_chk ?_ | refine Br.tt ?_ | refine Br.ff ?_ | refine Br.beq ?_ | refine Br.bne ?_ | refine Br.nt ?_ | refine Br.nf ?_ | refine d_wrap ?_ | refine d_rem ?_ | refine d_nat ?_ | refine d_get (by omega) ?_ | refine Br.yesd ?_ | refine Br.nod ?_ | refine Br.yesn ?_ | refine Br.nodn ?_ | refine d_le ?_ | refine d_lt ?_ | refine And.intro ?_ ?_ | exact trivial | exact .inr rfl | rfl | refine sc_int | refine sc_bt ?_ | refine sc_bf ?_ | refine sc_bb ?_ | refine sc_bh ?_ | refine sc_ih ?_) | refine callW0 (each_bad xs ys _ h1 h2 h) rfl ⟨trivial, trivial, trivial⟩ ?_ | with_reducible refine Br.dec (fun _ => ?_) (fun _ => ?_) | with_reducible refine Br.decn (fun _ => ?_) (fun _ => ?_) | with_reducible refine d_left [] ?_ ?_ | exact rfl | exact Nat.le_of_ble_eq_true rfl | (refine Nat.le_of_eq ?_; simp [rows, seqI]; done) | refine call_go rfl rfl [] ?_ | (refine Hid.mk ?_; first | decide | omega | (simp <;> omega) | (intro e; subst e; omega) | (intro e; subst e; simp_all; done) | exact Prod.ext (by omega) (by omega))) <;> conv => whnf)
end Go.Proofs.YtdjoodbidcncaaaGreatDoor.AW
