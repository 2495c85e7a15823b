/- impl.each: its contract. -/
import Derived.Test.YtdjoodbidcncaaaGreatDoorMAxT
import Derived.Test.YtdjoodbidcncaaaGreatDoorMAxX
import Derived.Test.YtdjoodbidcncaaaGreatDoorMAxEs
import Derived.OpenShut
import Derived.Conc.HoldsTime
set_option linter.unusedVariables false
set_option linter.unusedSimpArgs false
namespace Go.Proofs.YtdjoodbidcncaaaGreatDoor.AW
open Go Go.Conc Go.ConcN Go.RowKit
set_option maxRecDepth 10000
/-- a contract, by whatever shows the body -/
theorem spec_by {C : Ctx} (he : C.M.Enters) {f : FuncId} {fn : Func} {c : Code} {args : List AV} {Hin : List Block} {res : AV} {Hout : List (Nat × Option Block)} (hf : C.P.funcs[f]? = some fn) (hn : (fn.name == "runtime.NumGoroutine") = false) (hb : fn.body = some c)
    (hl : args.length ≤ fn.ntmps) (h : ∀ E a w x, Inv C.M fn.ntmps Hin.length E ⟨tin 0 args, hin2 0 Hin, Hin.length⟩ a w x → C.M.Code f c (C.M.bodyM f fn fun v w' x' => ∃ E', RepA w' E' res v ∧ HInv E' (geth Hout) w' ∧ Ext (· < Hin.length) E w E' w' ∧ C.M.ok x' E' w' ∧ C.M.le x w.heap.size x') a w x) : Spec C f args Hin res Hout := by
  refine ⟨⟨fn, hf, hn, by rw [hb]; rfl⟩, fun E w x vs hvl hvs hh hU hok => he.callsOf hf hn hb (h E _ w x ?_)⟩
  refine ⟨⟨fun t => ?_, by simp; omega, rfl⟩, ?_, fun b hb => (hU b).1 hb, fun b hb => (hU b).2 hb, hok⟩
  · simp only [get_tin, Nat.zero_le, if_true, Nat.sub_zero]
    cases ha : args[t]? with
    | none => exact .any _
    | some x =>
      have := hvs t x ha
      have hlt : t < vs.length := by rw [hvl]; exact (List.getElem?_eq_some_iff.1 ha).1
      have e : (vs.toArray ++ Array.replicate (fn.ntmps - vs.toArray.size) undef).getD t undef = vs.getD t undef := by
        simp only [Array.getD_eq_getD_getElem?]
        rw [Array.getElem?_append_left (by simpa using hlt)]
        simp [List.getD]
      rw [e]; exact this
  · have : geth (hin2 0 Hin) = hin Hin := by funext b; rw [geth_hin2]; simp [hin]
    simp only [this]; exact hh
/-- where the workers are about to be started -/
def ETail (xs ys : List Int) (mk : FuncId) (e : Exit) (st : St) : Prop := e = .normal ∧ ∃ b0 b1 b2 i0 i1 i2, get st.T 3 = .ptr b0 i0 0 0 ∧ get st.T 4 = .ptr b1 i1 0 0 ∧ get st.T 5 = .ptr b2 i2 0 0 ∧ geth st.H b0 = some (.box [sl xs none]) ∧ geth st.H b1 = some (.box [sl ys none]) ∧ geth st.H b2 = some (.box [fnv mk])
theorem each_head (xs ys : List Int) (mk : FuncId) (hA : (xs.length : Int) ≤ 20 ∧ ∀ x ∈ xs, okE x) (hB : (ys.length : Int) ≤ 20 ∧ ∀ x ∈ ys, okE x) (hlen : xs.length = ys.length) :
    vc ctx 39 0 eachBody.l ⟨tin 0 [sl xs none, sl ys none, fnv mk], hin2 0 [], 0⟩ (fun e st => e = .normal ∧ vc ctx 39 0 eachBody.r.l st (ETail xs ys mk)) := by
  have la := rows_len ci xs
  have lb := rows_len ci ys
  have sA := ShareOk_s xs (by omega)
  have sB := ShareOk_s ys (by omega)
  rw [decide_eq_true hA] at sA
  rw [decide_eq_true hB] at sB
  simp only [eachBody, Tryz.f72, Option.getD_some, Code.r, Code.l]
  conv => whnf
  repeat' ((first | (with_reducible first | refine d_chk ?_ | refine Br.tt ?_ | refine Br.ff ?_ | refine Br.beq ?_ | refine Br.bne ?_ | refine Br.nt ?_ | refine Br.nf ?_ | refine d_wrap ?_ | refine d_rem ?_ | refine d_nat ?_ | refine d_get (by omega) ?_ | refine Br.yesd ?_ | refine Br.nod ?_ | refine Br.yesn ?_ | refine Br.nodn ?_ | refine d_le ?_ | refine d_lt ?_ | refine And.intro ?_ ?_ | exact trivial | exact .inr rfl | rfl | refine sc_int | refine sc_bt ?_ | refine sc_bf ?_ | refine sc_bb ?_ | refine sc_bh ?_ | refine sc_ih ?_) | refine callW0 sA rfl trivial ?_ | refine callW0 sB rfl trivial ?_ | with_reducible refine Br.dec (fun _ => ?_) (fun _ => ?_) | with_reducible refine Br.decn (fun _ => ?_) (fun _ => ?_) | with_reducible refine d_left [] ?_ ?_ | exact rfl | exact Nat.le_of_ble_eq_true rfl | (refine Nat.le_of_eq ?_; simp [rows, seqI]; done) | refine call_go rfl rfl [] ?_ | (refine Hid.mk ?_; first | decide | omega | (simp <;> omega) | (intro e; subst e; omega) | (intro e; subst e; simp_all; done) | exact Prod.ext (by omega) (by omega))) <;> conv => whnf)
  exact ⟨_, _, _, _, _, _, rfl, rfl, rfl, rfl, rfl, rfl⟩
theorem plain_cell {w : World} {r : Nat} {cells : Array Value} (h : Plain w r cells) {o : Nat} (ho : o < cells.size) : w.cell? ⟨r, o, none⟩ = some (cells.getD o undef) := by
  obtain ⟨ty, lo, hi, h1, h2⟩ := h
  have := h2 o ho
  simp [World.cell?, h1, this, ho, Array.getD_eq_getD_getElem?]
theorem box_sl {E : Emb} {w : World} {b : Nat} {l : List Int} (h : RepB w E b (.box [sl l none])) : ∃ aa ca, w.cell? ⟨E.blk b, 0, none⟩ = some (.slice aa l.length ca) ∧ (0 < l.length → ∃ r o, aa = some ⟨r, o, none⟩ ∧ E.pr r ∧ ∀ k (hk : k < l.length), w.cell? ⟨r, o + k, none⟩ = some (.int .i64 l[k])) := by
  obtain ⟨_, cells, hp, _, hl, hc⟩ := h
  have h0 := hc 0 _ rfl
  have e := plain_cell hp (o := 0) (by simp at hl; omega)
  generalize cells.getD 0 undef = v at h0 e
  cases h0 with
  | cv c v h0 =>
    cases h0 with
    | ro st es cap a n c vs hn hcc hcap hst hcell hrep =>
      have hn : n = l.length := by rw [hn]; simp [rows]
      subst hn
      refine ⟨a, c, e, fun hpos => ?_⟩
      have g : ∀ k (hk : k < l.length), (rows ci l)[k]? = some (ci l[k]) := fun k hk => rows_get hk
      obtain ⟨ad, rfl, hs, hpr, _⟩ := hcell 0 _ (g 0 hpos)
      obtain ⟨r, o, sp⟩ := ad
      simp only at hs hpr
      subst hs
      refine ⟨r, o, rfl, hpr, fun k hk => ?_⟩
      obtain ⟨ad, e1, _, _, h3⟩ := hcell k _ (g k hk)
      cases e1
      have h4 := h3 0 _ rfl
      have h5 := hrep k _ 0 _ (g k hk) rfl
      generalize vs k 0 = u at h4 h5
      cases h5
      simpa [cellAt] using h4
theorem box_fn {E : Emb} {w : World} {b : Nat} {f : FuncId} (h : RepB w E b (.box [fnv f])) : w.cell? ⟨E.blk b, 0, none⟩ = some (.func (.func f) #[] #[]) := by
  obtain ⟨_, cells, hp, _, hl, hc⟩ := h
  have h0 := hc 0 _ rfl
  have e := plain_cell hp (o := 0) (by simp at hl; omega)
  generalize cells.getD 0 undef = v at h0 e
  cases h0 with
  | cv c v h0 => cases h0; exact e
end Go.Proofs.YtdjoodbidcncaaaGreatDoor.AW

/- impl.each: its contract, joined. -/
namespace Go.Proofs.YtdjoodbidcncaaaGreatDoor.AW
open Go Go.Conc Go.ConcN Go.RowKit
open Go.ConcR (Payload)
set_option maxRecDepth 10000
theorem box_sl2 {E : Emb} {w : World} {b : Nat} {l : List Int} (N : Nat) (h : RepB w E b (.box [sl l none])) : ∃ aa ca r o, w.cell? ⟨E.blk b, 0, none⟩ = some (.slice aa l.length ca) ∧ (0 < l.length → aa = some ⟨r, o, none⟩ ∧ E.pr r) ∧ (l.length = 0 → r = N) ∧ ∀ k (hk : k < l.length), w.cell? ⟨r, o + k, none⟩ = some (.int .i64 l[k]) := by
  obtain ⟨aa, ca, h1, h2⟩ := box_sl h
  by_cases hp : 0 < l.length
  · obtain ⟨r, o, h3, h4, h5⟩ := h2 hp
    exact ⟨aa, ca, r, o, h1, fun _ => ⟨h3, h4⟩, fun e => by omega, h5⟩
  · exact ⟨aa, ca, N, 0, h1, fun e => absurd e hp, fun _ => rfl, fun k hk => by omega⟩
theorem getD_some {T : Array Value} {t : Nat} {v : Value} (ht : t < T.size) (h : T.getD t undef = v) : T[t]? = some v := by
  rw [Array.getD_eq_getD_getElem?, Array.getElem?_eq_getElem ht] at h
  rw [Array.getElem?_eq_getElem ht]
  simpa using h
theorem each_s (xs ys zs : List Int) (mk : FuncId) (hA : (xs.length : Int) ≤ 20 ∧ ∀ x ∈ xs, okE x) (hB : (ys.length : Int) ≤ 20 ∧ ∀ x ∈ ys, okE x) (hlen : xs.length = ys.length) (hz : zs.length = xs.length)
    (hfn : ∀ k, k < xs.length → WFn Tryz.prog mk (xs.getD k 0) (ys.getD k 0) (zs.getD k 0)) : Spec ctx 72 [sl xs none, sl ys none, fnv mk] [] (.tup [.own 0 1 0 zs.length (some zs.length), bv true]) [(0, some (.row 1 (rows ci zs)))] := by
  refine spec_by (C := ctx) ctx_enters Tryz.func72 (by rfl) (c := eachBody) (by rfl) (Nat.le_of_ble_eq_true rfl) fun E a w x hI => ?_
  rw [show eachBody = .seq eachBody.l (.seq eachBody.r.l eTailC) by rfl]
  refine ctx.sound.seq (ctx.sound.mono (vc_ok ctx_mixed _ _ _ (each_head xs ys mk hA hB hlen) _ E a w x hI) fun e a1 w1 x1 ⟨st1, E1, ⟨he, hv⟩, hI1, hx1, hle1⟩ => ?_)
  subst he
  refine ctx.sound.seq (ctx.sound.mono (vc_ok ctx_mixed _ _ _ hv _ E1 a1 w1 x1 hI1) fun e a2 w2 x2 ⟨st2, E2, ⟨he, b0, b1, b2, i0, i1, i2, g3, g4, g5, k0, k1, k2⟩, hI2, hx2, hle2⟩ => ?_)
  subst he
  have hU : ∀ b, ¬ E.U b := fun b hb => by have := hI.nx b hb; simp at this
  obtain ⟨⟨S₀, rfl, hsafe⟩, hgl⟩ := hI2.ok
  obtain ⟨T, d⟩ := a2
  have hd : d = [] := hI2.t.df
  subst hd
  have hsz : T.size = 39 := hI2.t.sz
  have t3 := hI2.t.tm 3
  have t4 := hI2.t.tm 4
  have t5 := hI2.t.tm 5
  rw [g3] at t3; rw [g4] at t4; rw [g5] at t5
  obtain ⟨u0, e3⟩ := rep_ptr t3
  obtain ⟨u1, e4⟩ := rep_ptr t4
  obtain ⟨u2, e5⟩ := rep_ptr t5
  have n0 := rep_ptr_g t3
  have n1 := rep_ptr_g t4
  have n2 := rep_ptr_g t5
  generalize hN : w2.heap.size = N
  obtain ⟨aa, ca, ra, oa, av, a1', a2', xv⟩ := box_sl2 (N + 1) (hI2.h.hp b0 _ k0)
  obtain ⟨ab, cb, rb, ob, bv', b1', b2', yv⟩ := box_sl2 (N + 1) (hI2.h.hp b1 _ k1)
  have fv := box_fn (hI2.h.hp b2 _ k2)
  have hnl : xs.length < 2147483648 := by omega
  have bl : ∀ b, E2.U b → ¬ E2.gh b → E2.blk b < N ∧ ¬ S₀ (E2.blk b) := fun b hu hg => ⟨hN ▸ hsafe.ul b hu hg, hsafe.un b hu hg⟩
  have pl : ∀ r, E2.pr r → r < N ∧ ¬ S₀ r := fun r hr => ⟨hN ▸ hI2.h.frlt r (hI2.h.prfr r hr), hsafe.pr r hr⟩
  let q : WP := { Bf := E2.blk b2, Ba := E2.blk b0, Bb := E2.blk b1, Bo := N + 1, mkf := mk, ra := ra, oa := oa, ca := ca, rb := rb, ob := ob, cb := cb, xs := fun k => xs.getD k 0, ys := fun k => ys.getD k 0, zs := fun k => zs.getD k 0 }
  have hra : (ra < N ∧ ¬ S₀ ra) ∨ ra = N + 1 := by
    rcases Nat.eq_zero_or_pos xs.length with h | h
    · exact .inr (a2' h)
    · exact .inl (pl _ (a1' h).2)
  have hrb : (rb < N ∧ ¬ S₀ rb) ∨ rb = N + 1 := by
    rcases Nat.eq_zero_or_pos ys.length with h | h
    · exact .inr (b2' h)
    · exact .inl (pl _ (b1' h).2)
  have hl : ELie S₀ q N xs.length := by
    refine ⟨fun r hr => hN ▸ hsafe.lt r hr, fun b hb => ?_, rfl, hnl⟩
    rcases hb with rfl | rfl | rfl | rfl | rfl | rfl
    · exact .inl (bl _ u2 n2)
    · exact .inl (bl _ u0 n0)
    · exact .inl (bl _ u1 n1)
    · exact .inr rfl
    · exact hra
    · exact hrb
  rw [← hlen] at bv'
  have hEA : EA w2 q N xs.length 0 (.slice aa xs.length q.ca) (.slice ab xs.length q.cb) w2 := by
    refine ⟨⟨rfl, rfl, rfl⟩, fun _ _ => rfl, hN, fv, av, bv', fun h => by rw [(a1' h).1], fun h => by rw [(b1' (by omega)).1], fun k hk => ?_, fun k hk => ?_, (bl _ u2 n2).1, (bl _ u0 n0).1, (bl _ u1 n1).1, fun h => ⟨(pl _ (a1' h).2).1, (pl _ (b1' (by omega)).2).1⟩⟩
    · have := xv k hk
      simpa [q, List.getD, hk] using this
    · have := yv k (by omega)
      simpa [q, List.getD, show k < ys.length by omega] using this
  show wpE Tryz.prog 72 eTailC _ ⟨T, []⟩ w2 (shunOf S₀)
  intro Post b k cs hb hk hc
  have hro : b.roundOf = none := hk.2.resolve_right fun h => by
    have := h _ (hb ▸ Tryz.func72)
    exact absurd this (by simp [Tryz.f72])
  have hk := hk.1
  rw [Frame.atR_of_none hro]
  refine eTail (q := q) hl hk hb hfn (fun T' w' s1 s2 s3 hEF todo => ?_) T hsz (getD_some (by omega) (by simpa using e3)) (getD_some (by omega) (by simpa using e4)) (getD_some (by omega) (by simpa using e5)) (bl _ u0 n0).2 w2 hEA
  rw [← Frame.atR_of_none hro]
  refine hc .ret ⟨T', []⟩ w' (shunOf (eSh S₀ N)) ⟨rfl, fun w₁ hrel => ?_⟩ todo
  have hN1 : w.heap.size ≤ N := hN ▸ Nat.le_trans hx1.sz hx2.sz
  have hE1 := hEF.rely hl hrel
  obtain ⟨hK, hhas, hpay⟩ := hE1
  have g6 : T'.getD 6 undef = .slice (some ⟨N, 0, none⟩) xs.length xs.length := by rw [Array.getD_eq_getD_getElem?, s2]; rfl
  have g7 : T'.getD 7 undef = .bool true := by rw [Array.getD_eq_getD_getElem?, s3]; rfl
  have efr : ∀ r, E.fr r → E2.fr r := fun r hr => hx2.fr r (hx1.fr r hr)
  have frl : ∀ r, E.fr r → r < N := fun r hr => hN ▸ hI2.h.frlt r (efr r hr)
  let E' : Emb := { E with blk := fun _ => N, sz := fun _ => xs.length, U := fun b => b = 0, gh := fun _ => False }
  obtain ⟨arr, hp1, hp2⟩ := hpay
  have hplain : Plain w₁ N arr := ⟨3, 0, 0, hp1, fun o _ h => by omega⟩
  refine ⟨.tuple #[.slice (some ⟨N, 0, none⟩) xs.length xs.length, .bool true], ?_, ?_, E', ?_, ?_, ?_, ?_, ?_⟩
  · simp [results, Tryz.f72, s2, s3]
  · have : (results Tryz.f72 T').events Tryz.prog w₁ #[] = #[] := by simp [results, Tryz.f72]
    show ∀ e ∈ seen Tryz.prog 72 ((results Tryz.f72 T').events Tryz.prog w₁ #[]), EvL _ _ e
    rw [this, seen_none]
    exact fun e he => by simp at he
  · refine .tup _ _ rfl fun k x hx => ?_
    match k, hx with
    | 0, hx =>
      simp only [List.getElem?_cons_zero, Option.some.injEq] at hx
      subst hx
      rw [hz]
      exact .own (E := E') 0 1 0 xs.length (some xs.length) xs.length rfl (fun h => h) (Nat.le_refl _) (fun x e => Option.some.inj e) (by simp [E'])
    | 1, hx =>
      simp at hx
      subst hx
      exact .cv _ _ (.sc _ rfl)
    | k + 2, hx => simp at hx
  · have h0 : ∀ b B, geth [(0, some (Block.row 1 (rows ci zs)))] b = some B → b = 0 ∧ B = .row 1 (rows ci zs) := fun b B hb => by
      cases b with
      | zero => simp [geth] at hb; exact ⟨rfl, hb.symm⟩
      | succ b =>
        have hb : (none : Option Block) = some B := hb
        cases hb
    refine ⟨fun b B hb => ?_, fun b B hb => ⟨(h0 b B hb).1, fun _ hr => by have := frl N hr; omega⟩, fun b b' B B' hb hb' _ _ _ => by rw [(h0 b B hb).1, (h0 b' B' hb').1], hI.h.prfr, fun r hr => ?_⟩
    · obtain ⟨rfl, rfl⟩ := h0 b B hb
      refine .inr ⟨fun h => h, arr, hplain, hp2, by simp [rows, hz, hp2], by intro e he; simp [rows] at he; obtain ⟨_, _, rfl⟩ := he; rfl, fun i e k x he hx => ?_⟩
      have hi : i < zs.length := by have := (List.getElem?_eq_some_iff.1 he).1; simpa [rows] using this
      rw [rows_get hi] at he
      cases he
      cases k with
      | zero =>
        simp at hx
        subst hx
        have := hhas i (by omega)
        rw [Has, plain_cell hplain (by omega)] at this
        have e2 : zs.getD i 0 = zs[i] := by simp [List.getD, hi]
        simp only [q, e2, Option.some.injEq] at this
        simp only [Nat.mul_one, Nat.add_zero]
        rw [this]
        exact .sc _ rfl
      | succ k => simp at hx
    · rw [hK.size]
      have := frl r hr; omega
  · refine ⟨fun r hr => (hK.low r (frl r hr)).trans ((hx2.keep r (hx1.fr r hr)).trans (hx1.keep r hr)), fun r hr => hr, fun r hr => hr, by rw [hK.size]; omega, fun b hb => absurd hb (by simp), fun b hb _ => .inl ⟨hN1, by rw [hK.size]; show N < _; omega⟩, fun r hr => .inl hr, (hx1.io.trans hx2.io).trans hK.io⟩
  · refine ⟨⟨eSh S₀ N, rfl, fun r hr hs => ?_, fun b hb _ hs => ?_, fun r hs => ?_, fun b hb _ => by rw [hK.size]; show N < _; omega⟩, fun p hp => ?_⟩
    · have := pl r (hx2.pr r (hx1.pr r hr))
      rcases hs with hs | hs
      · exact this.2 hs
      · omega
    · rcases hs with hs | hs
      · have : N < N := hl.sh _ hs; omega
      · have : N = N + 2 := hs; omega
    · rw [hK.size]
      rcases hs with hs | hs
      · have := hl.sh _ hs; omega
      · omega
    · obtain ⟨k1, k2, k3⟩ := hI.ok.2 p hp
      refine ⟨k1, k2, ?_⟩
      rw [← k3]
      exact cellAt_congr ((hK.low p.1 (frl p.1 k2)).trans ((hx2.keep p.1 (hx1.fr p.1 k2)).trans (hx1.keep p.1 k2))) _
  · exact fun r ⟨a, e, hs⟩ => by
      cases e
      rcases hs with hs | hs
      · exact ctx.M.leTrans hle1 hle2 hx1.sz r ⟨_, rfl, hs⟩
      · right
        have : r = N + 2 := hs
        omega
end Go.Proofs.YtdjoodbidcncaaaGreatDoor.AW

/- Shares: sums, differences. -/
namespace Go.Proofs.YtdjoodbidcncaaaGreatDoor.AW
open Go Go.Conc
set_option maxRecDepth 10000
abbrev isSh (l : List Int) : Prop := (l.length : Int) ≤ 20 ∧ ∀ x ∈ l, okE x
def elm (z : Int) : Int := (IntKind.i64.wrap ((IntKind.i64.wrap z).tmod 31 + 31)).tmod 31
def zipE (f : Int → Int → Int) (xs ys : List Int) : List Int := List.zipWith f xs ys
theorem zipE_len {f : Int → Int → Int} {xs ys : List Int} (h : xs.length = ys.length) : (zipE f xs ys).length = xs.length := by simp [zipE, h]
theorem zipE_get {f : Int → Int → Int} {xs ys : List Int} (h : xs.length = ys.length) {k : Nat} (hk : k < xs.length) : (zipE f xs ys).getD k 0 = f (xs.getD k 0) (ys.getD k 0) := by
  have h2 : k < ys.length := by omega
  have h3 : k < (List.zipWith f xs ys).length := by simp; omega
  simp only [zipE, List.getD, List.getElem?_eq_getElem h3, List.getElem?_eq_getElem hk, List.getElem?_eq_getElem h2, Option.getD_some, List.getElem_zipWith]
theorem each_plus (xs ys : List Int) (hA : isSh xs) (hB : isSh ys) (h : xs.length = ys.length) : Spec ctx 72 [sl xs none, sl ys none, fnv 73] [] (.tup [.own 0 1 0 (zipE (fun x y => elm (x + y)) xs ys).length (some (zipE (fun x y => elm (x + y)) xs ys).length), bv true]) [(0, some (.row 1 (rows ci (zipE (fun x y => elm (x + y)) xs ys))))] :=
  each_s xs ys _ _ hA hB h (zipE_len h) fun k hk => by rw [zipE_get h hk]; exact wfn_plus _ _
theorem ShareSum_s (xs ys : List Int) (hA : isSh xs) (hB : isSh ys) (h : xs.length = ys.length) : Spec ctx 22 [sl xs none, sl ys none] [] (.tup [.own 0 1 0 (zipE (fun x y => elm (x + y)) xs ys).length (some (zipE (fun x y => elm (x + y)) xs ys).length), bv true]) [(0, some (.row 1 (rows ci (zipE (fun x y => elm (x + y)) xs ys))))] := by
  refine spec_mk ctx_mixed ctx_enters 1 Tryz.func22 rfl rfl (Nat.le_of_ble_eq_true rfl) 0 rfl ?_; conv => whnf
  repeat' ((first | (with_reducible first | refine d_chk ?_ | refine Br.tt ?_ | refine Br.ff ?_ | refine Br.beq ?_ | refine Br.bne ?_ | refine Br.nt ?_ | refine Br.nf ?_ | refine d_wrap ?_ | refine d_rem ?_ | refine d_nat ?_ | refine d_get (by omega) ?_ | refine Br.yesd ?_ | refine Br.nod ?_ | refine Br.yesn ?_ | refine Br.nodn ?_ | refine d_le ?_ | refine d_lt ?_ | refine And.intro ?_ ?_ | exact trivial | exact .inr rfl | rfl | refine sc_int | refine sc_bt ?_ | refine sc_bf ?_ | refine sc_bb ?_ | refine sc_bh ?_ | refine sc_ih ?_) | refine callWm (each_plus xs ys hA hB h) 1 rfl ?_ | with_reducible refine d_left [(0, 0)] ?_ ?_ | with_reducible refine Br.dec (fun _ => ?_) (fun _ => ?_) | with_reducible refine Br.decn (fun _ => ?_) (fun _ => ?_) | with_reducible refine d_left [] ?_ ?_ | exact rfl | exact Nat.le_of_ble_eq_true rfl | (refine Nat.le_of_eq ?_; simp [rows, seqI]; done) | refine call_go rfl rfl [] ?_ | (refine Hid.mk ?_; first | decide | omega | (simp <;> omega) | (intro e; subst e; omega) | (intro e; subst e; simp_all; done) | exact Prod.ext (by omega) (by omega))) <;> conv => whnf)
end Go.Proofs.YtdjoodbidcncaaaGreatDoor.AW

/- Collectors and parts: which are valid; sums. -/
namespace Go.Proofs.YtdjoodbidcncaaaGreatDoor.AW
open Go
set_option maxRecDepth 10000
theorem lenOf_le (k : Int) : 0 ≤ lenOf k ∧ lenOf k ≤ 4 := by unfold lenOf; omega
theorem lenOf_no {k : Int} (h : ¬(1 ≤ k ∧ k ≤ 3)) : lenOf k = 0 := by unfold lenOf; omega
theorem iTypeLenG_s (n : Int) : Spec ctx 23 [iv .i64 n] [] (iv .i64 (lenOf n)) [] := by
  by_cases h : 1 ≤ n ∧ n ≤ 3
  · exact iTypeLen_s n h
  · rw [lenOf_no h]
    refine spec_mk ctx_mixed ctx_enters 0 Tryz.func23 rfl rfl (Nat.le_of_ble_eq_true rfl) 0 rfl ?_; conv => whnf
    repeat' ((first | (with_reducible first | refine d_chk ?_ | refine Br.tt ?_ | refine Br.ff ?_ | refine Br.beq ?_ | refine Br.bne ?_ | refine Br.nt ?_ | refine Br.nf ?_ | refine d_wrap ?_ | refine d_rem ?_ | refine d_nat ?_ | refine d_get (by omega) ?_ | refine Br.yesd ?_ | refine Br.nod ?_ | refine Br.yesn ?_ | refine Br.nodn ?_ | refine d_le ?_ | refine d_lt ?_ | refine And.intro ?_ ?_ | exact trivial | exact .inr rfl | rfl | refine sc_int | refine sc_bt ?_ | refine sc_bf ?_ | refine sc_bb ?_ | refine sc_bh ?_ | refine sc_ih ?_) | refine callW0 (measureOf0_s _ h) rfl trivial ?_ | with_reducible refine Br.dec (fun _ => ?_) (fun _ => ?_) | with_reducible refine Br.decn (fun _ => ?_) (fun _ => ?_) | with_reducible refine d_left [] ?_ ?_ | exact rfl | exact Nat.le_of_ble_eq_true rfl | (refine Nat.le_of_eq ?_; simp [rows, seqI]; done) | refine call_go rfl rfl [] ?_ | (refine Hid.mk ?_; first | decide | omega | (simp <;> omega) | (intro e; subst e; omega) | (intro e; subst e; simp_all; done) | exact Prod.ext (by omega) (by omega))) <;> conv => whnf)
def VecOk (k : Int) (v : List Int) : Prop := (1 ≤ k ∧ k ≤ 3) ∧ (v.length : Int) = lenOf k ∧ ∀ x ∈ v, okE x
instance (k : Int) (v : List Int) : Decidable (VecOk k v) := by unfold VecOk; infer_instance
def CoOk (c : Co) : Prop := (1 ≤ c.side ∧ c.side ≤ 2) ∧ VecOk c.kind c.sum ∧ c.ids.Nodup ∧ (c.ids.length : Int) ≤ 9 ∧ ∀ x ∈ c.ids, idO x
instance (c : Co) : Decidable (CoOk c) := by unfold CoOk; infer_instance
def plen (k : Int) : Int := if 1 ≤ k ∧ k ≤ 3 then 3 * lenOf k + 3 else 0
def PrOk (p : Prt) : Prop := idO p.id ∧ (1 ≤ p.kind ∧ p.kind ≤ 3) ∧ (1 ≤ p.side ∧ p.side ≤ 2) ∧ (p.list.length : Int) = plen p.kind ∧ ∀ x ∈ p.list, okE x
instance (p : Prt) : Decidable (PrOk p) := by unfold PrOk; infer_instance
theorem vec_iff (k : Int) (v : List Int) : ((1 ≤ k ∧ k ≤ 3) ∧ (v.length : Int) = lenOf k ∧ (v.length : Int) ≤ 20 ∧ ∀ x ∈ v, okE x) ↔ VecOk k v := by
  have := lenOf_le k
  exact ⟨fun h => ⟨h.1, h.2.1, h.2.2.2⟩, fun h => ⟨h.1, h.2.1, by have := h.2.1; omega, h.2.2⟩⟩
theorem plen_le (k : Int) : 0 ≤ plen k ∧ plen k ≤ 15 := by have := lenOf_le k; unfold plen; split <;> omega
theorem iColOk_s (c : Co) (h1 : c.sum.length ≤ 1100000) (h2 : c.ids.length ≤ 1100000) : Spec ctx 25 [.agg (coL c)] [] (bv (decide (CoOk c))) [] := by
  have la := rows_len ci c.sum
  have lb := rows_len ci c.ids
  have sS := sized_s c.kind (lenOf c.kind) c.sum (by omega)
  rw [decide_eq_decide.2 (vec_iff c.kind c.sum)] at sS
  refine spec_mk ctx_mixed ctx_enters 0 Tryz.func25 rfl rfl (Nat.le_of_ble_eq_true rfl) 0 rfl ?_; conv => whnf
  repeat' ((first | (with_reducible first | refine d_chk ?_ | refine Br.tt ?_ | refine Br.ff ?_ | refine Br.beq ?_ | refine Br.bne ?_ | refine Br.nt ?_ | refine Br.nf ?_ | refine d_wrap ?_ | refine d_rem ?_ | refine d_nat ?_ | refine d_get (by omega) ?_ | refine Br.yesd ?_ | refine Br.nod ?_ | refine Br.yesn ?_ | refine Br.nodn ?_ | refine d_le ?_ | refine d_lt ?_ | refine And.intro ?_ ?_ | exact trivial | exact .inr rfl | rfl | refine sc_int | refine sc_bt ?_ | refine sc_bf ?_ | refine sc_bb ?_ | refine sc_bh ?_ | refine sc_ih ?_) | refine callW0 (within_s _ _ _) rfl trivial ?_ | refine callW0 (iTypeLenG_s _) rfl trivial ?_ | refine callW0 sS rfl trivial ?_ | refine callW0 (idsOk_s c.ids _ h2) rfl trivial ?_ | with_reducible refine Br.dec (fun _ => ?_) (fun _ => ?_) | with_reducible refine Br.decn (fun _ => ?_) (fun _ => ?_) | with_reducible refine d_left [] ?_ ?_ | exact rfl | exact Nat.le_of_ble_eq_true rfl | (refine Nat.le_of_eq ?_; simp [rows, seqI]; done) | refine call_go rfl rfl [] ?_ | (refine Hid.mk ?_; first | decide | omega | (simp <;> omega) | (intro e; subst e; omega) | (intro e; subst e; simp_all; done) | exact Prod.ext (by omega) (by omega))) <;> conv => whnf)
  · rename_i g1 g2; exact ⟨⟨fun g => ⟨g1, g2, g⟩, fun g => g.2.2⟩⟩
  · rename_i g1 g2; exact ⟨fun g => g2 g.2.1⟩
  · rename_i g1; exact ⟨fun g => g1 g.1⟩
theorem l22Has_s (l : List Int) (n : Int) (hl : l.length ≤ 1100000) : Spec ctx 66 [sl l none, iv .i64 n] [] (bv (decide (n ∈ l))) [] := by
  have la := rows_len ci l
  refine spec_mk ctx_mixed ctx_enters 0 Tryz.func66 rfl rfl (Nat.le_of_ble_eq_true rfl) 0 rfl ?_; conv => whnf
  repeat' ((first | (with_reducible first | refine d_chk ?_ | refine Br.tt ?_ | refine Br.ff ?_ | refine Br.beq ?_ | refine Br.bne ?_ | refine Br.nt ?_ | refine Br.nf ?_ | refine d_wrap ?_ | refine d_rem ?_ | refine d_nat ?_ | refine d_get (by omega) ?_ | refine Br.yesd ?_ | refine Br.nod ?_ | refine Br.yesn ?_ | refine Br.nodn ?_ | refine d_le ?_ | refine d_lt ?_ | refine And.intro ?_ ?_ | exact trivial | exact .inr rfl | rfl | refine sc_int | refine sc_bt ?_ | refine sc_bf ?_ | refine sc_bb ?_ | refine sc_bh ?_ | refine sc_ih ?_) | with_reducible refine Br.dec (fun _ => ?_) (fun _ => ?_) | with_reducible refine Br.decn (fun _ => ?_) (fun _ => ?_) | with_reducible refine d_left [] ?_ ?_ | exact rfl | exact Nat.le_of_ble_eq_true rfl | (refine Nat.le_of_eq ?_; simp [rows, seqI]; done) | refine call_go rfl rfl [] ?_ | (refine Hid.mk ?_; first | decide | omega | (simp <;> omega) | (intro e; subst e; omega) | (intro e; subst e; simp_all; done) | exact Prod.ext (by omega) (by omega))) <;> conv => whnf)
  refine AW.loopP (fun i : Nat => ⟨[(0, sl l none), (1, iv .i64 n), (5, iv .i64 i)], [], 0⟩) (fun i => i ≤ l.length ∧ n ∉ l.take i) (fun i => l.length - i) 0 [] (d_sub _ ?_ ?_) ⟨by simp, by simp⟩ (fun i ⟨hi, ht⟩ => ?_) <;> (conv => whnf) <;>
  repeat' ((first | (with_reducible first | refine d_chk ?_ | refine Br.tt ?_ | refine Br.ff ?_ | refine Br.beq ?_ | refine Br.bne ?_ | refine Br.nt ?_ | refine Br.nf ?_ | refine d_wrap ?_ | refine d_rem ?_ | refine d_nat ?_ | refine d_get (by omega) ?_ | refine Br.yesd ?_ | refine Br.nod ?_ | refine Br.yesn ?_ | refine Br.nodn ?_ | refine d_le ?_ | refine d_lt ?_ | refine And.intro ?_ ?_ | exact trivial | exact .inr rfl | rfl | refine sc_int | refine sc_bt ?_ | refine sc_bf ?_ | refine sc_bb ?_ | refine sc_bh ?_ | refine sc_ih ?_) | refine d_end (i+1) [] (d_sub _ ?_ ?_) ?_ | with_reducible refine Br.dec (fun _ => ?_) (fun _ => ?_) | with_reducible refine Br.decn (fun _ => ?_) (fun _ => ?_) | with_reducible refine d_left [] ?_ ?_ | exact rfl | exact Nat.le_of_ble_eq_true rfl | (refine Nat.le_of_eq ?_; simp [rows, seqI]; done) | refine call_go rfl rfl [] ?_ | (refine Hid.mk ?_; first | decide | omega | (simp <;> omega) | (intro e; subst e; omega) | (intro e; subst e; simp_all; done) | exact Prod.ext (by omega) (by omega))) <;> conv => whnf)
  · rename_i g; exact ⟨by rw [← g]; exact List.getElem_mem _⟩
  · rename_i g; refine ⟨by omega, ?_⟩; rw [List.take_succ_eq_append_getElem (by omega)]; simp only [List.mem_append, List.mem_singleton]; exact fun q => q.elim ht fun q => g q.symm
  · rw [List.take_of_length_le (by omega)] at ht; exact ⟨ht⟩
theorem l11Vec_s (k : Int) (l : List Int) (hl : l.length ≤ 1100000) : Spec ctx 67 [iv .i64 k, sl l none] [] (bv (decide (VecOk k l))) [] := by
  have la := rows_len ci l
  refine spec_mk ctx_mixed ctx_enters 0 Tryz.func67 rfl rfl (Nat.le_of_ble_eq_true rfl) 0 rfl ?_; conv => whnf
  repeat' ((first | (with_reducible first | refine d_chk ?_ | refine Br.tt ?_ | refine Br.ff ?_ | refine Br.beq ?_ | refine Br.bne ?_ | refine Br.nt ?_ | refine Br.nf ?_ | refine d_wrap ?_ | refine d_rem ?_ | refine d_nat ?_ | refine d_get (by omega) ?_ | refine Br.yesd ?_ | refine Br.nod ?_ | refine Br.yesn ?_ | refine Br.nodn ?_ | refine d_le ?_ | refine d_lt ?_ | refine And.intro ?_ ?_ | exact trivial | exact .inr rfl | rfl | refine sc_int | refine sc_bt ?_ | refine sc_bf ?_ | refine sc_bb ?_ | refine sc_bh ?_ | refine sc_ih ?_) | refine callW0 (l11Kind_s _) rfl trivial ?_ | refine callW0 (sShareOk_s l (by omega)) rfl trivial ?_ | refine callW0 (TypeLen_s _) rfl trivial ?_ | with_reducible refine Br.dec (fun _ => ?_) (fun _ => ?_) | with_reducible refine Br.decn (fun _ => ?_) (fun _ => ?_) | with_reducible refine d_left [] ?_ ?_ | exact rfl | exact Nat.le_of_ble_eq_true rfl | (refine Nat.le_of_eq ?_; simp [rows, seqI]; done) | refine call_go rfl rfl [] ?_ | (refine Hid.mk ?_; first | decide | omega | (simp <;> omega) | (intro e; subst e; omega) | (intro e; subst e; simp_all; done) | exact Prod.ext (by omega) (by omega))) <;> conv => whnf)
  · rename_i g1 g2; rw [la]; exact ⟨⟨fun g => ⟨g1, g, g2.2⟩, fun g => g.2.1⟩⟩
  · rename_i g1 g2; have := lenOf_le k; exact ⟨fun g => g2 ⟨by have := g.2.1; omega, g.2.2⟩⟩
  · rename_i g1; exact ⟨fun g => g1 g.1⟩
theorem rows_td (l : List Int) (k : Nat) : List.take k (List.drop 0 (rows ci l)) = rows ci (l.take k) := by simp [rows, List.map_take]
theorem nodup_more {l : List Int} {i : Nat} (h : i < l.length) : (l.take (i + 1)).Nodup ↔ (l.take i).Nodup ∧ l[i] ∉ l.take i := by
  rw [List.take_succ_eq_append_getElem h, List.nodup_append]
  exact ⟨fun ⟨a, _, b⟩ => ⟨a, fun q => b _ q _ (by simp) rfl⟩, fun ⟨a, b⟩ => ⟨a, by simp, fun x hx y hy e => b (by simp at hy; rw [← hy, ← e]; exact hx)⟩⟩
theorem rows_dt (l : List Int) (k : Nat) : List.drop 0 (List.take k (rows ci l)) = rows ci (l.take k) := by simp [rows, List.map_take]
theorem sColOk_s (c : Co) (h1 : c.sum.length ≤ 1100000) (h2 : c.ids.length ≤ 1100000) : Spec ctx 19 [.agg (coL c)] [] (bv (decide (CoOk c))) [] := by
  have la := rows_len ci c.sum
  have lb := rows_len ci c.ids
  refine spec_mk ctx_mixed ctx_enters 0 Tryz.func19 rfl rfl (Nat.le_of_ble_eq_true rfl) 0 rfl ?_; conv => whnf
  repeat' ((first | (with_reducible first | refine d_chk ?_ | refine Br.tt ?_ | refine Br.ff ?_ | refine Br.beq ?_ | refine Br.bne ?_ | refine Br.nt ?_ | refine Br.nf ?_ | refine d_wrap ?_ | refine d_rem ?_ | refine d_nat ?_ | refine d_get (by omega) ?_ | refine Br.yesd ?_ | refine Br.nod ?_ | refine Br.yesn ?_ | refine Br.nodn ?_ | refine d_le ?_ | refine d_lt ?_ | refine And.intro ?_ ?_ | exact trivial | exact .inr rfl | rfl | refine sc_int | refine sc_bt ?_ | refine sc_bf ?_ | refine sc_bb ?_ | refine sc_bh ?_ | refine sc_ih ?_) | with_reducible refine Br.dec (fun _ => ?_) (fun _ => ?_) | with_reducible refine Br.decn (fun _ => ?_) (fun _ => ?_) | with_reducible refine d_left [] ?_ ?_ | exact rfl | exact Nat.le_of_ble_eq_true rfl | (refine Nat.le_of_eq ?_; simp [rows, seqI]; done) | refine call_go rfl rfl [] ?_ | (refine Hid.mk ?_; first | decide | omega | (simp <;> omega) | (intro e; subst e; omega) | (intro e; subst e; simp_all; done) | exact Prod.ext (by omega) (by omega))) <;> conv => whnf)
  refine AW.loopP (fun i : Nat => ⟨[(1, .ptr 0 4 0 0), (3, iv .i64 i)], [(0, some (.box (coL c)))], 1⟩) (fun i => i ≤ c.ids.length ∧ (c.ids.take i).Nodup ∧ ∀ x ∈ c.ids.take i, idO x) (fun i => c.ids.length - i) 0 [(0, 0)] (d_sub _ ?_ ?_) ⟨by simp, by simp, by simp⟩ (fun i ⟨hi, ht, hx⟩ => ?_) <;> (conv => whnf) <;>
  repeat' ((first | (with_reducible first | refine d_chk ?_ | refine Br.tt ?_ | refine Br.ff ?_ | refine Br.beq ?_ | refine Br.bne ?_ | refine Br.nt ?_ | refine Br.nf ?_ | refine d_wrap ?_ | refine d_rem ?_ | refine d_nat ?_ | refine d_get (by omega) ?_ | refine Br.yesd ?_ | refine Br.nod ?_ | refine Br.yesn ?_ | refine Br.nodn ?_ | refine d_le ?_ | refine d_lt ?_ | refine And.intro ?_ ?_ | exact trivial | exact .inr rfl | rfl | refine sc_int | refine sc_bt ?_ | refine sc_bf ?_ | refine sc_bb ?_ | refine sc_bh ?_ | refine sc_ih ?_) | refine d_end (i+1) [(0, 0)] (d_sub _ ?_ ?_) ?_ | refine callW0 (l6In_s _ _ _) rfl trivial ?_ | refine callW0 (l11Vec_s _ _ h1) rfl trivial ?_ | (refine callWl (f := 66) (l22Has_s (c.ids.take i) c.ids[i] (Nat.le_trans (List.length_take_le' _ _) h2)) trivial ?_ ?_; focus ((repeat' (first | exact trivial | exact rfl | exact .inr rfl | exact .inl rfl | exact rows_td _ _ | refine And.intro ?_ ?_)); done)) | exact fun h => by cases h | with_reducible refine Br.dec (fun _ => ?_) (fun _ => ?_) | with_reducible refine Br.decn (fun _ => ?_) (fun _ => ?_) | with_reducible refine d_left [] ?_ ?_ | exact rfl | exact Nat.le_of_ble_eq_true rfl | (refine Nat.le_of_eq ?_; simp [rows, seqI]; done) | refine call_go rfl rfl [] ?_ | (refine Hid.mk ?_; first | decide | omega | (simp <;> omega) | (intro e; subst e; omega) | (intro e; subst e; simp_all; done) | exact Prod.ext (by omega) (by omega))) <;> conv => whnf)
  · rename_i g; exact ⟨fun q => g (q.2.2.2.2 _ (List.getElem_mem _))⟩
  · rename_i g; exact ⟨fun q => ((nodup_more (by omega)).1 (q.2.2.1.sublist (List.take_sublist (i + 1) _))).2 g⟩
  · rename_i g1 g2
    refine ⟨by omega, (nodup_more (by omega)).2 ⟨ht, g2⟩, fun x q => ?_⟩
    rw [List.take_succ_eq_append_getElem (by omega)] at q
    rcases List.mem_append.1 q with q | q
    · exact hx x q
    · simp at q; subst q; exact g1
  · rename_i g1 g2
    rw [List.take_of_length_le (by omega)] at ht hx
    rw [lb]
    exact ⟨⟨fun g => ⟨g1, g2, ht, g, hx⟩, fun g => g.2.2.2.1⟩⟩
  · rename_i g1; exact ⟨fun g => g1 g.2.1⟩
  · rename_i g1; exact ⟨fun g => g1 g.1⟩
theorem sPartOk_s (p : Prt) (h1 : p.list.length ≤ 1100000) : Spec ctx 20 [prA p] [] (bv (decide (PrOk p))) [] := by
  have la := rows_len ci p.list
  refine spec_mk ctx_mixed ctx_enters 0 Tryz.func20 rfl rfl (Nat.le_of_ble_eq_true rfl) 0 rfl ?_; conv => whnf
  repeat' ((first | (with_reducible first | refine d_chk ?_ | refine Br.tt ?_ | refine Br.ff ?_ | refine Br.beq ?_ | refine Br.bne ?_ | refine Br.nt ?_ | refine Br.nf ?_ | refine d_wrap ?_ | refine d_rem ?_ | refine d_nat ?_ | refine d_get (by omega) ?_ | refine Br.yesd ?_ | refine Br.nod ?_ | refine Br.yesn ?_ | refine Br.nodn ?_ | refine d_le ?_ | refine d_lt ?_ | refine And.intro ?_ ?_ | exact trivial | exact .inr rfl | rfl | refine sc_int | refine sc_bt ?_ | refine sc_bf ?_ | refine sc_bb ?_ | refine sc_bh ?_ | refine sc_ih ?_) | refine callW0 (l6In_s _ _ _) rfl trivial ?_ | refine callW0 (l11Kind_s _) rfl trivial ?_ | refine callW0 (sShareOk_s p.list (by omega)) rfl trivial ?_ | refine callW0 (sProofLen_s _) rfl trivial ?_ | with_reducible refine Br.dec (fun _ => ?_) (fun _ => ?_) | with_reducible refine Br.decn (fun _ => ?_) (fun _ => ?_) | with_reducible refine d_left [] ?_ ?_ | exact rfl | exact Nat.le_of_ble_eq_true rfl | (refine Nat.le_of_eq ?_; simp [rows, seqI]; done) | refine call_go rfl rfl [] ?_ | (refine Hid.mk ?_; first | decide | omega | (simp <;> omega) | (intro e; subst e; omega) | (intro e; subst e; simp_all; done) | exact Prod.ext (by omega) (by omega))) <;> conv => whnf)
  · rename_i g1 g2 g3 g4
    rw [la]
    exact ⟨⟨fun g => ⟨g1, g2, g3, g, g4.2⟩, fun g => g.2.2.2.1⟩⟩
  · rename_i g1 g2 g3 g4
    have := plen_le p.kind
    exact ⟨fun g => g4 ⟨by have := g.2.2.2.1; omega, g.2.2.2.2⟩⟩
  · rename_i g1 g2 g3; exact ⟨fun g => g3 g.2.2.1⟩
  · rename_i g1 g2; exact ⟨fun g => g2 g.2.1⟩
  · rename_i g1; exact ⟨fun g => g1 g.1⟩
def fsum (x y : Int) : Int := if okE x ∧ okE y then (x + y) % 31 else 0
theorem rows_grow {l : List Int} {i : Nat} {v : Int} (h : i < l.length) (hv : l[i] = v) : (rows ci (l.take i)).take i ++ [ci v] = rows ci (l.take (i + 1)) := by
  subst hv
  rw [List.take_of_length_le (by simp [rows]; omega), List.take_succ_eq_append_getElem h]
  simp only [rows, List.map_append, List.map_cons, List.map_nil]
theorem zipE_at {f : Int → Int → Int} {xs ys : List Int} (h : xs.length = ys.length) {k : Nat} (hk : k < (zipE f xs ys).length) : (zipE f xs ys)[k] = f (xs[k]'(by rw [zipE_len h] at hk; exact hk)) (ys[k]'(by rw [zipE_len h] at hk; omega)) := by
  simp [zipE]
theorem l3Sum_s (a b : List Int) (hl : a.length = b.length) (h1 : a.length ≤ 1100000) : Spec ctx 119 [sl a none, sl b none] [] (.own 0 1 0 a.length none) [(0, some (.row 1 (rows ci (zipE fsum a b))))] := by
  have la := rows_len ci a
  have lb := rows_len ci b
  have lz := zipE_len (f := fsum) hl
  have ll := fun i => rows_len ci ((zipE fsum a b).take i)
  refine spec_mk ctx_mixed ctx_enters 4 Tryz.func119 rfl rfl (Nat.le_of_ble_eq_true rfl) 0 rfl ?_; conv => whnf
  repeat' ((first | (with_reducible first | refine d_chk ?_ | refine Br.tt ?_ | refine Br.ff ?_ | refine Br.beq ?_ | refine Br.bne ?_ | refine Br.nt ?_ | refine Br.nf ?_ | refine d_wrap ?_ | refine d_rem ?_ | refine d_nat ?_ | refine d_get (by omega) ?_ | refine Br.yesd ?_ | refine Br.nod ?_ | refine Br.yesn ?_ | refine Br.nodn ?_ | refine d_le ?_ | refine d_lt ?_ | refine And.intro ?_ ?_ | exact trivial | exact .inr rfl | rfl | refine sc_int | refine sc_bt ?_ | refine sc_bf ?_ | refine sc_bb ?_ | refine sc_bh ?_ | refine sc_ih ?_) | with_reducible refine Br.dec (fun _ => ?_) (fun _ => ?_) | with_reducible refine Br.decn (fun _ => ?_) (fun _ => ?_) | with_reducible refine d_left [] ?_ ?_ | exact rfl | exact Nat.le_of_ble_eq_true rfl | (refine Nat.le_of_eq ?_; simp [rows, seqI]; done) | refine call_go rfl rfl [] ?_ | (refine Hid.mk ?_; first | decide | omega | (simp <;> omega) | (intro e; subst e; omega) | (intro e; subst e; simp_all; done) | exact Prod.ext (by omega) (by omega))) <;> conv => whnf)
  all_goals (try exact Or.inl rfl)
  refine AW.loopP (fun i : Nat => ⟨[(0, sl a none), (1, sl b none), (5, .own 0 1 0 i none), (6, iv .i64 i)], [(0, some (.row 1 (rows ci ((zipE fsum a b).take i))))], 1⟩) (fun i => i ≤ a.length) (fun i => a.length - i) 0 [(0, 0)] (d_sub _ ?_ ?_) (by omega) (fun i hi => ?_) <;> (conv => whnf) <;>
  repeat' ((first | (with_reducible first | refine d_chk ?_ | refine Br.tt ?_ | refine Br.ff ?_ | refine Br.beq ?_ | refine Br.bne ?_ | refine Br.nt ?_ | refine Br.nf ?_ | refine d_wrap ?_ | refine d_rem ?_ | refine d_nat ?_ | refine d_get (by omega) ?_ | refine Br.yesd ?_ | refine Br.nod ?_ | refine Br.yesn ?_ | refine Br.nodn ?_ | refine d_le ?_ | refine d_lt ?_ | refine And.intro ?_ ?_ | exact trivial | exact .inr rfl | rfl | refine sc_int | refine sc_bt ?_ | refine sc_bf ?_ | refine sc_bb ?_ | refine sc_bh ?_ | refine sc_ih ?_) | refine callW0 (sFieldSum_s _ _) rfl trivial ?_ | refine d_end (i+1) [(0, 2)] (d_sub _ ?_ ?_) ?_ | with_reducible refine d_left [(0, 0)] ?_ ?_ | (show (2 * (i + 1) + 768) * 8 ≤ 281474976710656; omega) | (show i ≤ (rows ci ((zipE fsum a b).take i)).length; rw [ll, List.length_take]; omega) | with_reducible refine Br.dec (fun _ => ?_) (fun _ => ?_) | with_reducible refine Br.decn (fun _ => ?_) (fun _ => ?_) | with_reducible refine d_left [] ?_ ?_ | exact rfl | exact Nat.le_of_ble_eq_true rfl | (refine Nat.le_of_eq ?_; simp [rows, seqI]; done) | refine call_go rfl rfl [] ?_ | (refine Hid.mk ?_; first | decide | omega | (simp <;> omega) | (intro e; subst e; omega) | (intro e; subst e; simp_all; done) | exact Prod.ext (by omega) (by omega))) <;> conv => whnf)
  · exact Or.inl rfl
  · exact rows_grow (by omega) (zipE_at hl (by omega))
  · omega
  · rw [List.take_of_length_le (by omega)]
abbrev cownA (side kind : Int) (n m : Nat) : AV := .agg [iv .i64 side, iv .i64 kind, .own 0 1 0 n none, .own 1 1 0 m none]
abbrev cownH (xs ys : List Int) : List (Nat × Option Block) := [(0, some (.row 1 (rows ci xs))), (1, some (.row 1 (rows ci ys)))]
theorem l22Copy_s (c : Co) (h1 : c.sum.length ≤ 1100000) (h2 : c.ids.length ≤ 1100000) : Spec ctx 118 [.agg (coL c)] [] (cownA c.side c.kind c.sum.length c.ids.length) (cownH c.sum c.ids) := by
  have la := rows_len ci c.sum
  have lb := rows_len ci c.ids
  refine spec_mk ctx_mixed ctx_enters 9 Tryz.func118 rfl rfl (Nat.le_of_ble_eq_true rfl) 0 rfl ?_; conv => whnf
  repeat' ((first | (with_reducible first | refine d_chk ?_ | refine Br.tt ?_ | refine Br.ff ?_ | refine Br.beq ?_ | refine Br.bne ?_ | refine Br.nt ?_ | refine Br.nf ?_ | refine d_wrap ?_ | refine d_rem ?_ | refine d_nat ?_ | refine d_get (by omega) ?_ | refine Br.yesd ?_ | refine Br.nod ?_ | refine Br.yesn ?_ | refine Br.nodn ?_ | refine d_le ?_ | refine d_lt ?_ | refine And.intro ?_ ?_ | exact trivial | exact .inr rfl | rfl | refine sc_int | refine sc_bt ?_ | refine sc_bf ?_ | refine sc_bb ?_ | refine sc_bh ?_ | refine sc_ih ?_) | with_reducible refine d_left [(0, 3), (1, 5)] ?_ ?_ | (show (2 * (0 + (rows ci c.sum).length) + 768) * 8 ≤ 281474976710656; omega) | (show (2 * (0 + (rows ci c.ids).length) + 768) * 8 ≤ 281474976710656; omega) | omega | with_reducible refine Br.dec (fun _ => ?_) (fun _ => ?_) | with_reducible refine Br.decn (fun _ => ?_) (fun _ => ?_) | with_reducible refine d_left [] ?_ ?_ | exact rfl | exact Nat.le_of_ble_eq_true rfl | (refine Nat.le_of_eq ?_; simp [rows, seqI]; done) | refine call_go rfl rfl [] ?_ | (refine Hid.mk ?_; first | decide | omega | (simp <;> omega) | (intro e; subst e; omega) | (intro e; subst e; simp_all; done) | exact Prod.ext (by omega) (by omega))) <;> conv => whnf)
/-- what is counted -/
def TakeOk (c : Co) (p : Prt) : Prop := p.side = c.side ∧ p.kind = c.kind ∧ p.id ∉ c.ids ∧ (c.ids.length : Int) < 9
instance (c : Co) (p : Prt) : Decidable (TakeOk c p) := by unfold TakeOk; infer_instance
def ctake (c : Co) (p : Prt) : Co := if TakeOk c p then { c with sum := zipE fsum c.sum (p.list.take c.sum.length), ids := c.ids ++ [p.id] } else c
end Go.Proofs.YtdjoodbidcncaaaGreatDoor.AW

/- The reference's field and polynomials: what they come to. -/
namespace Go.Proofs.YtdjoodbidcncaaaGreatDoor.AW
open Go
set_option maxRecDepth 10000
abbrev allE (l : List Int) : Prop := ∀ x ∈ l, okE x
theorem allE_get {l : List Int} (h : allE l) {i : Nat} (hi : i < l.length) : okE l[i] := h _ (List.getElem_mem hi)
theorem mulb {a b : Int} (ha : okE a) (hb : okE b) : 0 ≤ a * b ∧ a * b ≤ 900 :=
  ⟨Int.mul_nonneg ha.1 hb.1, by have := Int.mul_le_mul ha.2 hb.2 hb.1 (by omega : (0 : Int) ≤ 30); omega⟩
theorem d_mod {x y : Int} {K : Int → Prop} (k : K (x % y)) (hx : 0 ≤ x := by omega) : ∃ z, Int.tmod x y = z ∧ K z := ⟨_, Int.tmod_eq_emod_of_nonneg hx, k⟩
theorem d_addE {x y : Int} {K : Int → Prop} (hy : okE y) (k : okE y → K (x + y)) (hx : 0 ≤ x ∧ x ≤ 1000000 := by omega) : ∃ z, IntKind.i64.wrap (x + y) = z ∧ K z := ⟨_, wrap_i64 (by omega) (by omega), k hy⟩
theorem d_addL {x y : Int} {K : Int → Prop} (hx : okE x) (k : okE x → K (x + y)) (hy : 0 ≤ y ∧ y ≤ 1000000 := by omega) : ∃ z, IntKind.i64.wrap (x + y) = z ∧ K z := ⟨_, wrap_i64 (by omega) (by omega), k hx⟩
theorem d_mulE {x y : Int} {K : Int → Prop} (hx : okE x) (hy : okE y) (k : (0 ≤ x * y ∧ x * y ≤ 900) → K (x * y)) : ∃ z, IntKind.i64.wrap (x * y) = z ∧ K z := ⟨_, wrap_i64 (by have := mulb hx hy; omega) (by have := mulb hx hy; omega), k (mulb hx hy)⟩
def fdif (x y : Int) : Int := if okE x ∧ okE y then (x + 31 - y) % 31 else 0
def fmul (x y : Int) : Int := if okE x ∧ okE y then x * y % 31 else 0
theorem fdif_ok (x y : Int) : okE (fdif x y) := by unfold fdif; split <;> omega
theorem fmul_ok (x y : Int) : okE (fmul x y) := by unfold fmul; split <;> omega
theorem sFieldDif_s (a b : Int) : Spec ctx 204 [iv .i64 a, iv .i64 b] [] (iv .i64 (fdif a b)) [] := by
  by_cases h : okE a ∧ okE b
  · have e : fdif a b = (a + 31 - b) % 31 := if_pos h
    rw [e]
    refine spec_mk ctx_mixed ctx_enters 0 Tryz.func204 rfl rfl (Nat.le_of_ble_eq_true rfl) 0 rfl ?_; conv => whnf
    repeat' ((first | (with_reducible first | refine d_chk ?_ | refine Br.tt ?_ | refine Br.ff ?_ | refine Br.beq ?_ | refine Br.bne ?_ | refine Br.nt ?_ | refine Br.nf ?_ | refine d_wrap ?_ | refine d_rem ?_ | refine d_nat ?_ | refine d_get (by omega) ?_ | refine Br.yesd ?_ | refine Br.nod ?_ | refine Br.yesn ?_ | refine Br.nodn ?_ | refine d_le ?_ | refine d_lt ?_ | refine And.intro ?_ ?_ | exact trivial | exact .inr rfl | rfl | refine sc_int | refine sc_bt ?_ | refine sc_bf ?_ | refine sc_bb ?_ | refine sc_bh ?_ | refine sc_ih ?_) | refine callW0 (sFieldOk_s _) rfl trivial ?_ | with_reducible refine d_mod ?_ | exact fun h => by cases h | with_reducible refine Br.dec (fun _ => ?_) (fun _ => ?_) | with_reducible refine Br.decn (fun _ => ?_) (fun _ => ?_) | with_reducible refine d_left [] ?_ ?_ | exact rfl | exact Nat.le_of_ble_eq_true rfl | (refine Nat.le_of_eq ?_; simp [rows, seqI]; done) | refine call_go rfl rfl [] ?_ | (refine Hid.mk ?_; first | decide | omega | (simp <;> omega) | (intro e; subst e; omega) | (intro e; subst e; simp_all; done) | exact Prod.ext (by omega) (by omega))) <;> conv => whnf)
  · have e : fdif a b = 0 := if_neg h
    rw [e]
    refine spec_mk ctx_mixed ctx_enters 0 Tryz.func204 rfl rfl (Nat.le_of_ble_eq_true rfl) 0 rfl ?_; conv => whnf
    repeat' ((first | (with_reducible first | refine d_chk ?_ | refine Br.tt ?_ | refine Br.ff ?_ | refine Br.beq ?_ | refine Br.bne ?_ | refine Br.nt ?_ | refine Br.nf ?_ | refine d_wrap ?_ | refine d_rem ?_ | refine d_nat ?_ | refine d_get (by omega) ?_ | refine Br.yesd ?_ | refine Br.nod ?_ | refine Br.yesn ?_ | refine Br.nodn ?_ | refine d_le ?_ | refine d_lt ?_ | refine And.intro ?_ ?_ | exact trivial | exact .inr rfl | rfl | refine sc_int | refine sc_bt ?_ | refine sc_bf ?_ | refine sc_bb ?_ | refine sc_bh ?_ | refine sc_ih ?_) | refine callW0 (sFieldOk_s _) rfl trivial ?_ | exact absurd ⟨by assumption, by assumption⟩ h | with_reducible refine Br.dec (fun _ => ?_) (fun _ => ?_) | with_reducible refine Br.decn (fun _ => ?_) (fun _ => ?_) | with_reducible refine d_left [] ?_ ?_ | exact rfl | exact Nat.le_of_ble_eq_true rfl | (refine Nat.le_of_eq ?_; simp [rows, seqI]; done) | refine call_go rfl rfl [] ?_ | (refine Hid.mk ?_; first | decide | omega | (simp <;> omega) | (intro e; subst e; omega) | (intro e; subst e; simp_all; done) | exact Prod.ext (by omega) (by omega))) <;> conv => whnf)
theorem sFieldMul_s (a b : Int) : Spec ctx 205 [iv .i64 a, iv .i64 b] [] (iv .i64 (fmul a b)) [] := by
  by_cases h : okE a ∧ okE b
  · have e : fmul a b = a * b % 31 := if_pos h
    have hm := mulb h.1 h.2
    rw [e]
    refine spec_mk ctx_mixed ctx_enters 0 Tryz.func205 rfl rfl (Nat.le_of_ble_eq_true rfl) 0 rfl ?_; conv => whnf
    repeat' ((first | (with_reducible first | refine d_chk ?_ | refine Br.tt ?_ | refine Br.ff ?_ | refine Br.beq ?_ | refine Br.bne ?_ | refine Br.nt ?_ | refine Br.nf ?_ | refine d_wrap ?_ | refine d_rem ?_ | refine d_nat ?_ | refine d_get (by omega) ?_ | refine Br.yesd ?_ | refine Br.nod ?_ | refine Br.yesn ?_ | refine Br.nodn ?_ | refine d_le ?_ | refine d_lt ?_ | refine And.intro ?_ ?_ | exact trivial | exact .inr rfl | rfl | refine sc_int | refine sc_bt ?_ | refine sc_bf ?_ | refine sc_bb ?_ | refine sc_bh ?_ | refine sc_ih ?_) | refine callW0 (sFieldOk_s _) rfl trivial ?_ | with_reducible refine d_mod ?_ | exact fun h => by cases h | with_reducible refine Br.dec (fun _ => ?_) (fun _ => ?_) | with_reducible refine Br.decn (fun _ => ?_) (fun _ => ?_) | with_reducible refine d_left [] ?_ ?_ | exact rfl | exact Nat.le_of_ble_eq_true rfl | (refine Nat.le_of_eq ?_; simp [rows, seqI]; done) | refine call_go rfl rfl [] ?_ | (refine Hid.mk ?_; first | decide | omega | (simp <;> omega) | (intro e; subst e; omega) | (intro e; subst e; simp_all; done) | exact Prod.ext (by omega) (by omega))) <;> conv => whnf)
  · have e : fmul a b = 0 := if_neg h
    rw [e]
    refine spec_mk ctx_mixed ctx_enters 0 Tryz.func205 rfl rfl (Nat.le_of_ble_eq_true rfl) 0 rfl ?_; conv => whnf
    repeat' ((first | (with_reducible first | refine d_chk ?_ | refine Br.tt ?_ | refine Br.ff ?_ | refine Br.beq ?_ | refine Br.bne ?_ | refine Br.nt ?_ | refine Br.nf ?_ | refine d_wrap ?_ | refine d_rem ?_ | refine d_nat ?_ | refine d_get (by omega) ?_ | refine Br.yesd ?_ | refine Br.nod ?_ | refine Br.yesn ?_ | refine Br.nodn ?_ | refine d_le ?_ | refine d_lt ?_ | refine And.intro ?_ ?_ | exact trivial | exact .inr rfl | rfl | refine sc_int | refine sc_bt ?_ | refine sc_bf ?_ | refine sc_bb ?_ | refine sc_bh ?_ | refine sc_ih ?_) | refine callW0 (sFieldOk_s _) rfl trivial ?_ | exact absurd ⟨by assumption, by assumption⟩ h | with_reducible refine Br.dec (fun _ => ?_) (fun _ => ?_) | with_reducible refine Br.decn (fun _ => ?_) (fun _ => ?_) | with_reducible refine d_left [] ?_ ?_ | exact rfl | exact Nat.le_of_ble_eq_true rfl | (refine Nat.le_of_eq ?_; simp [rows, seqI]; done) | refine call_go rfl rfl [] ?_ | (refine Hid.mk ?_; first | decide | omega | (simp <;> omega) | (intro e; subst e; omega) | (intro e; subst e; simp_all; done) | exact Prod.ext (by omega) (by omega))) <;> conv => whnf)
/-! the inverse -/
def invN (a : Nat) : Nat := ((List.range 31).find? fun n => decide (1 ≤ n ∧ a * n % 31 = 1)).getD 0
def finv (a : Int) : Int := (invN a.toNat : Int)
theorem invN_tab : ∀ a : Fin 31, ∀ n : Fin 31, 1 ≤ n.val → a.val * n.val % 31 = 1 → invN a.val = n.val := by decide +kernel
theorem finv_at {a : Int} (h : okE a) {i : Nat} (h1 : 1 ≤ i) (h2 : i < 31) (h3 : a * i % 31 = 1) : finv a = i := by
  obtain ⟨b, rfl⟩ := Int.eq_ofNat_of_zero_le h.1
  have e : b * i % 31 = 1 := by exact_mod_cast h3
  have := invN_tab ⟨b, by omega⟩ ⟨i, h2⟩ h1 e
  simp only at this
  unfold finv; simp [this]
theorem finv_no {a : Int} (h : okE a) (h3 : ∀ i : Nat, 1 ≤ i → i < 31 → ¬ a * i % 31 = 1) : finv a = 0 := by
  obtain ⟨b, rfl⟩ := Int.eq_ofNat_of_zero_le h.1
  unfold finv invN
  have : (List.range 31).find? (fun n => decide (1 ≤ n ∧ b * n % 31 = 1)) = none := by
    rw [List.find?_eq_none]
    intro n hn
    simp only [decide_eq_true_eq]
    rintro ⟨g1, g2⟩
    exact h3 n g1 (List.mem_range.1 hn) (by exact_mod_cast g2)
  rw [Int.toNat_natCast, this]; rfl
theorem mul30 {a : Int} (h : okE a) (i : Nat) (hi : i ≤ 31) : 0 ≤ a * i ∧ a * i ≤ 930 :=
  ⟨Int.mul_nonneg h.1 (by omega), by have := Int.mul_le_mul h.2 (show (i : Int) ≤ 31 by omega) (by omega) (by omega : (0 : Int) ≤ 30); omega⟩
theorem l1Inv_s (a : Int) (ha : okE a) : Spec ctx 203 [iv .i64 a] [] (iv .i64 (finv a)) [] := by
  refine spec_mk ctx_mixed ctx_enters 0 Tryz.func203 rfl rfl (Nat.le_of_ble_eq_true rfl) 0 rfl ?_; conv => whnf
  repeat' ((first | (with_reducible first | refine d_chk ?_ | refine Br.tt ?_ | refine Br.ff ?_ | refine Br.beq ?_ | refine Br.bne ?_ | refine Br.nt ?_ | refine Br.nf ?_ | refine d_wrap ?_ | refine d_rem ?_ | refine d_nat ?_ | refine d_get (by omega) ?_ | refine Br.yesd ?_ | refine Br.nod ?_ | refine Br.yesn ?_ | refine Br.nodn ?_ | refine d_le ?_ | refine d_lt ?_ | refine And.intro ?_ ?_ | exact trivial | exact .inr rfl | rfl | refine sc_int | refine sc_bt ?_ | refine sc_bf ?_ | refine sc_bb ?_ | refine sc_bh ?_ | refine sc_ih ?_) | with_reducible refine Br.dec (fun _ => ?_) (fun _ => ?_) | with_reducible refine Br.decn (fun _ => ?_) (fun _ => ?_) | with_reducible refine d_left [] ?_ ?_ | exact rfl | exact Nat.le_of_ble_eq_true rfl | (refine Nat.le_of_eq ?_; simp [rows, seqI]; done) | refine call_go rfl rfl [] ?_ | (refine Hid.mk ?_; first | decide | omega | (simp <;> omega) | (intro e; subst e; omega) | (intro e; subst e; simp_all; done) | exact Prod.ext (by omega) (by omega))) <;> conv => whnf)
  refine AW.loopP (fun i : Nat => ⟨[(0, iv .i64 a), (3, iv .i64 i)], [], 0⟩) (fun i => 1 ≤ i ∧ i ≤ 31 ∧ (0 ≤ a * i ∧ a * i ≤ 930) ∧ ∀ m : Nat, 1 ≤ m → m < i → ¬ a * m % 31 = 1) (fun i => 31 - i) 1 [] (d_sub _ ?_ ?_) ⟨by omega, by omega, mul30 ha 1 (by omega), by omega⟩ (fun i ⟨h1, h2, ⟨h3, h4⟩, h5⟩ => ?_) <;> (conv => whnf) <;>
  repeat' ((first | (with_reducible first | refine d_chk ?_ | refine Br.tt ?_ | refine Br.ff ?_ | refine Br.beq ?_ | refine Br.bne ?_ | refine Br.nt ?_ | refine Br.nf ?_ | refine d_wrap ?_ | refine d_rem ?_ | refine d_nat ?_ | refine d_get (by omega) ?_ | refine Br.yesd ?_ | refine Br.nod ?_ | refine Br.yesn ?_ | refine Br.nodn ?_ | refine d_le ?_ | refine d_lt ?_ | refine And.intro ?_ ?_ | exact trivial | exact .inr rfl | rfl | refine sc_int | refine sc_bt ?_ | refine sc_bf ?_ | refine sc_bb ?_ | refine sc_bh ?_ | refine sc_ih ?_) | refine d_end (i+1) [] (d_sub _ ?_ ?_) ?_ | with_reducible refine d_mod ?_ | exact fun h => by cases h | with_reducible refine Br.dec (fun _ => ?_) (fun _ => ?_) | with_reducible refine Br.decn (fun _ => ?_) (fun _ => ?_) | with_reducible refine d_left [] ?_ ?_ | exact rfl | exact Nat.le_of_ble_eq_true rfl | (refine Nat.le_of_eq ?_; simp [rows, seqI]; done) | refine call_go rfl rfl [] ?_ | (refine Hid.mk ?_; first | decide | omega | (simp <;> omega) | (intro e; subst e; omega) | (intro e; subst e; simp_all; done) | exact Prod.ext (by omega) (by omega))) <;> conv => whnf)
  · exact ⟨(finv_at ha h1 (by omega) (by assumption)).symm⟩
  · rename_i g
    refine ⟨by omega, by omega, mul30 ha (i + 1) (by omega), fun m q1 q2 => ?_⟩
    by_cases e : m = i
    · subst e; exact g
    · exact h5 m q1 (by omega)
  · have e : i = 31 := by omega
    subst e
    exact ⟨(finv_no ha h5).symm⟩
end Go.Proofs.YtdjoodbidcncaaaGreatDoor.AW

/- The reference's polynomials and lists: what they come to. -/
namespace Go.Proofs.YtdjoodbidcncaaaGreatDoor.AW
open Go
set_option maxRecDepth 10000
/-! a polynomial at a place -/
def l2at (p : List Int) (x : Int) : Int := p.foldr (fun c out => (out * x + c) % 31) 0
theorem l2at_ok (p : List Int) (x : Int) : okE (l2at p x) := by
  cases p with
  | nil => exact ⟨Int.le_refl _, (by decide : (0 : Int) ≤ 30)⟩
  | cons c p => simp only [l2at, List.foldr_cons]; omega
theorem l2at_drop {p : List Int} {x : Int} {i : Nat} (hi : i < p.length) : l2at (p.drop i) x = (l2at (p.drop (i + 1)) x * x + p[i]) % 31 := by
  rw [List.drop_eq_getElem_cons hi]; rfl
theorem l2At_s (p : List Int) (x : Int) (hp : allE p) (hx : okE x) (hl : p.length ≤ 1000) : Spec ctx 216 [sl p none, iv .i64 x] [] (iv .i64 (l2at p x)) [] := by
  have la := rows_len ci p
  refine spec_mk ctx_mixed ctx_enters 0 Tryz.func216 rfl rfl (Nat.le_of_ble_eq_true rfl) 0 rfl ?_; conv => whnf
  repeat' ((first | (with_reducible first | refine d_chk ?_ | refine Br.tt ?_ | refine Br.ff ?_ | refine Br.beq ?_ | refine Br.bne ?_ | refine Br.nt ?_ | refine Br.nf ?_ | refine d_wrap ?_ | refine d_rem ?_ | refine d_nat ?_ | refine d_get (by omega) ?_ | refine Br.yesd ?_ | refine Br.nod ?_ | refine Br.yesn ?_ | refine Br.nodn ?_ | refine d_le ?_ | refine d_lt ?_ | refine And.intro ?_ ?_ | exact trivial | exact .inr rfl | rfl | refine sc_int | refine sc_bt ?_ | refine sc_bf ?_ | refine sc_bb ?_ | refine sc_bh ?_ | refine sc_ih ?_) | with_reducible refine Br.dec (fun _ => ?_) (fun _ => ?_) | with_reducible refine Br.decn (fun _ => ?_) (fun _ => ?_) | with_reducible refine d_left [] ?_ ?_ | exact rfl | exact Nat.le_of_ble_eq_true rfl | (refine Nat.le_of_eq ?_; simp [rows, seqI]; done) | refine call_go rfl rfl [] ?_ | (refine Hid.mk ?_; first | decide | omega | (simp <;> omega) | (intro e; subst e; omega) | (intro e; subst e; simp_all; done) | exact Prod.ext (by omega) (by omega))) <;> conv => whnf)
  refine AW.loopP (fun i : Nat => ⟨[(0, sl p none), (1, iv .i64 x), (5, iv .i64 (l2at (p.drop i) x)), (6, iv .i64 ((i : Int) - 1))], [], 0⟩) (fun i => i ≤ p.length ∧ okE (l2at (p.drop i) x)) (fun i => i) p.length [] (d_sub _ ?_ ?_) ⟨by omega, l2at_ok _ _⟩ (fun i ⟨hi, ho⟩ => ?_) <;> (conv => whnf) <;>
  repeat' ((first | (with_reducible first | refine d_chk ?_ | refine Br.tt ?_ | refine Br.ff ?_ | refine Br.beq ?_ | refine Br.bne ?_ | refine Br.nt ?_ | refine Br.nf ?_ | refine d_wrap ?_ | refine d_rem ?_ | refine d_nat ?_ | refine d_get (by omega) ?_ | refine Br.yesd ?_ | refine Br.nod ?_ | refine Br.yesn ?_ | refine Br.nodn ?_ | refine d_le ?_ | refine d_lt ?_ | refine And.intro ?_ ?_ | exact trivial | exact .inr rfl | rfl | refine sc_int | refine sc_bt ?_ | refine sc_bf ?_ | refine sc_bb ?_ | refine sc_bh ?_ | refine sc_ih ?_) | (refine d_addE (by first | assumption | exact allE_get (by assumption) _) (fun _ => ?_)) | refine d_nati ?_ | (refine d_mulE (by first | assumption | exact allE_get (by assumption) _) (by first | assumption | exact allE_get (by assumption) _) (fun _ => ?_)) | refine d_end (i-1) [] (d_sub _ ?_ ?_) ?_ | with_reducible refine d_mod ?_ | exact fun h => by cases h | with_reducible refine Br.dec (fun _ => ?_) (fun _ => ?_) | with_reducible refine Br.decn (fun _ => ?_) (fun _ => ?_) | with_reducible refine d_left [] ?_ ?_ | exact rfl | exact Nat.le_of_ble_eq_true rfl | (refine Nat.le_of_eq ?_; simp [rows, seqI]; done) | refine call_go rfl rfl [] ?_ | (refine Hid.mk ?_; first | decide | omega | (simp <;> omega) | (intro e; subst e; omega) | (intro e; subst e; simp_all; done) | exact Prod.ext (by omega) (by omega))) <;> conv => whnf)
  · simp only [List.drop_length]; exact ⟨rfl⟩
  · obtain ⟨j, rfl⟩ : ∃ j, i = j + 1 := ⟨i - 1, by omega⟩
    have e : ((j + 1 : Nat) : Int) - 1 = (j : Nat) := by omega
    simp only [e, Int.toNat_natCast, Nat.add_sub_cancel]
    exact ⟨(l2at_drop (by omega)).symm⟩
  · exact ⟨by omega, l2at_ok _ _⟩
  · have e : i = 0 := by omega
    subst e
    exact ⟨by simp⟩
/-! sums of products -/
def l13dot (a b : List Int) : Nat → Int
  | 0 => 0
  | i + 1 => (l13dot a b i + a.getD i 0 * b.getD i 0) % 31
theorem l13dot_ok (a b : List Int) : ∀ i, okE (l13dot a b i)
  | 0 => ⟨Int.le_refl _, by simp only [l13dot]; decide⟩
  | i + 1 => by simp only [l13dot]; omega
theorem getD_get {l : List Int} {i : Nat} (hi : i < l.length) : l.getD i 0 = l[i] := by simp [List.getD, hi]
theorem l13Dot_s (a b : List Int) (ha : allE a) (hb : allE b) (hl : a.length ≤ b.length) (h1 : a.length ≤ 1000) : Spec ctx 217 [sl a none, sl b none] [] (iv .i64 (l13dot a b a.length)) [] := by
  have la := rows_len ci a
  have lb := rows_len ci b
  refine spec_mk ctx_mixed ctx_enters 0 Tryz.func217 rfl rfl (Nat.le_of_ble_eq_true rfl) 0 rfl ?_; conv => whnf
  repeat' ((first | (with_reducible first | refine d_chk ?_ | refine Br.tt ?_ | refine Br.ff ?_ | refine Br.beq ?_ | refine Br.bne ?_ | refine Br.nt ?_ | refine Br.nf ?_ | refine d_wrap ?_ | refine d_rem ?_ | refine d_nat ?_ | refine d_get (by omega) ?_ | refine Br.yesd ?_ | refine Br.nod ?_ | refine Br.yesn ?_ | refine Br.nodn ?_ | refine d_le ?_ | refine d_lt ?_ | refine And.intro ?_ ?_ | exact trivial | exact .inr rfl | rfl | refine sc_int | refine sc_bt ?_ | refine sc_bf ?_ | refine sc_bb ?_ | refine sc_bh ?_ | refine sc_ih ?_) | with_reducible refine Br.dec (fun _ => ?_) (fun _ => ?_) | with_reducible refine Br.decn (fun _ => ?_) (fun _ => ?_) | with_reducible refine d_left [] ?_ ?_ | exact rfl | exact Nat.le_of_ble_eq_true rfl | (refine Nat.le_of_eq ?_; simp [rows, seqI]; done) | refine call_go rfl rfl [] ?_ | (refine Hid.mk ?_; first | decide | omega | (simp <;> omega) | (intro e; subst e; omega) | (intro e; subst e; simp_all; done) | exact Prod.ext (by omega) (by omega))) <;> conv => whnf)
  refine AW.loopP (fun i : Nat => ⟨[(0, sl a none), (1, sl b none), (5, iv .i64 (l13dot a b i)), (6, iv .i64 i)], [], 0⟩) (fun i => i ≤ a.length ∧ okE (l13dot a b i)) (fun i => a.length - i) 0 [] (d_sub _ ?_ ?_) ⟨by omega, l13dot_ok _ _ _⟩ (fun i ⟨hi, hm⟩ => ?_) <;> (conv => whnf) <;>
  repeat' ((first | (with_reducible first | refine d_chk ?_ | refine Br.tt ?_ | refine Br.ff ?_ | refine Br.beq ?_ | refine Br.bne ?_ | refine Br.nt ?_ | refine Br.nf ?_ | refine d_wrap ?_ | refine d_rem ?_ | refine d_nat ?_ | refine d_get (by omega) ?_ | refine Br.yesd ?_ | refine Br.nod ?_ | refine Br.yesn ?_ | refine Br.nodn ?_ | refine d_le ?_ | refine d_lt ?_ | refine And.intro ?_ ?_ | exact trivial | exact .inr rfl | rfl | refine sc_int | refine sc_bt ?_ | refine sc_bf ?_ | refine sc_bb ?_ | refine sc_bh ?_ | refine sc_ih ?_) | (refine d_mulE (by first | assumption | exact allE_get (by assumption) _) (by first | assumption | exact allE_get (by assumption) _) (fun _ => ?_)) | refine d_end (i+1) [] (d_sub _ ?_ ?_) ?_ | with_reducible refine d_mod ?_ | exact fun h => by cases h | with_reducible refine Br.dec (fun _ => ?_) (fun _ => ?_) | with_reducible refine Br.decn (fun _ => ?_) (fun _ => ?_) | with_reducible refine d_left [] ?_ ?_ | exact rfl | exact Nat.le_of_ble_eq_true rfl | (refine Nat.le_of_eq ?_; simp [rows, seqI]; done) | refine call_go rfl rfl [] ?_ | (refine Hid.mk ?_; first | decide | omega | (simp <;> omega) | (intro e; subst e; omega) | (intro e; subst e; simp_all; done) | exact Prod.ext (by omega) (by omega))) <;> conv => whnf)
  · exact ⟨rfl⟩
  · exact ⟨by rw [l13dot, getD_get (by omega), getD_get (by omega)]⟩
  · exact ⟨by omega, l13dot_ok _ _ _⟩
  · have e : i = a.length := by omega
    subst e
    exact ⟨rfl⟩
/-! a line of values -/
/-- a list that grows by one -/
theorem rows_push (l : List Int) (n : Nat) (v : Int) (h : l.length = n) : (rows ci l).take n ++ [ci v] = rows ci (l ++ [v]) := by
  rw [List.take_of_length_le (by simp [rows, h])]; simp only [rows, List.map_append, List.map_cons, List.map_nil]
theorem l12First_s (v : List Int) (u : Int) (hl : v.length ≤ 1000) : Spec ctx 158 [sl v none, iv .i64 u] [] (.own 0 1 0 (v.length + 1) none) [(0, some (.row 1 (rows ci (u :: v))))] := by
  have la := rows_len ci v
  refine spec_mk ctx_mixed ctx_enters 4 Tryz.func158 rfl rfl (Nat.le_of_ble_eq_true rfl) 0 rfl ?_; conv => whnf
  repeat' ((first | (with_reducible first | refine d_chk ?_ | refine Br.tt ?_ | refine Br.ff ?_ | refine Br.beq ?_ | refine Br.bne ?_ | refine Br.nt ?_ | refine Br.nf ?_ | refine d_wrap ?_ | refine d_rem ?_ | refine d_nat ?_ | refine d_get (by omega) ?_ | refine Br.yesd ?_ | refine Br.nod ?_ | refine Br.yesn ?_ | refine Br.nodn ?_ | refine d_le ?_ | refine d_lt ?_ | refine And.intro ?_ ?_ | exact trivial | exact .inr rfl | rfl | refine sc_int | refine sc_bt ?_ | refine sc_bf ?_ | refine sc_bb ?_ | refine sc_bh ?_ | refine sc_ih ?_) | with_reducible refine d_left [(0, 1)] ?_ ?_ | (show (2 * (1 + (rows ci v).length) + 768) * 8 ≤ 281474976710656; omega) | with_reducible refine Br.dec (fun _ => ?_) (fun _ => ?_) | with_reducible refine Br.decn (fun _ => ?_) (fun _ => ?_) | with_reducible refine d_left [] ?_ ?_ | exact rfl | exact Nat.le_of_ble_eq_true rfl | (refine Nat.le_of_eq ?_; simp [rows, seqI]; done) | refine call_go rfl rfl [] ?_ | (refine Hid.mk ?_; first | decide | omega | (simp <;> omega) | (intro e; subst e; omega) | (intro e; subst e; simp_all; done) | exact Prod.ext (by omega) (by omega))) <;> conv => whnf)
  · rw [la]; omega
end Go.Proofs.YtdjoodbidcncaaaGreatDoor.AW

/- The reference's reader of bytes. -/
namespace Go.Proofs.YtdjoodbidcncaaaGreatDoor.AW
open Go
set_option maxRecDepth 10000
abbrev cb (x : Nat) : List CV := [.sc (.int .u8 x)]
abbrev sb (l : List Nat) : AV := .cv (.ro 1 (rows cb l) none)
abbrev rd (B : List Nat) (k : Nat) : Block := .box [sb B, iv .i64 k]
end Go.Proofs.YtdjoodbidcncaaaGreatDoor.AW

/- The row of a law that draws: a slice of bytes that came in. -/
namespace Go.Proofs.YtdjoodbidcncaaaGreatDoor.AW
open Go Go.ChangeShapes Go.WideShapes Go.ChangeAt Go.RowKit Go.Conc
set_option linter.unusedVariables false
section
variable {H : Type} {enc : TypeId × Value → H} {w : World} {base : Nat} {spare : Nat → Bool} {held : Bool}
end
end Go.Proofs.YtdjoodbidcncaaaGreatDoor.AW

/- From good runs to a row that says that time may pass. -/
namespace Go.Proofs.YtdjoodbidcncaaaGreatDoor.AW
open Go Go.ChangeShapes Go.WideShapes Go.ChangeAt Go.RowKit Go.WideElems Go.Conc Go.ConcM
theorem osLater_same {o o' : Os} (h : o' = o) : OsLater o o' := ⟨0, by rw [h]; rfl⟩
theorem put_os {w w' : World} (h : w'.os = w.os) : { w' with os := w.os } = w' := by rw [← h]
theorem witness_calm {H : Type} {enc : TypeId × Value → H} {C : Checked} {os : Os} {f : FuncId} {fn : Func} {s : ChangeSpec} {conds : List PathCond} {apart : Bool} {X : World → Array Value → Prop} (w0 : World) (args : Array Value) (fuel : Nat) (hos : w0.os = os)
    (hv : (w0.forCall (fun _ _ => 0) ⟨#[], args, []⟩).variablesB C.prog = true)
    (hr : ((w0.forCall (fun _ _ => 0) ⟨#[], args, []⟩).heap.toList.drop C.prog.globals.size).take ((begin C.prog (fun _ _ => 0) default).world.heap.size - C.prog.globals.size) =
      (begin C.prog (fun _ _ => 0) default).world.heap.toList.drop C.prog.globals.size)
    (hok : Input.okWideB C.prog (w0.forCall (fun _ _ => 0) ⟨#[], args, []⟩) f ⟨#[], args, []⟩ = true)
    (hpre : s.preB enc C.prog fn conds apart (w0.forCall (fun _ _ => 0) ⟨#[], args, []⟩).memory args fuel = true)
    (hsz : s.sizedB enc C.prog fn apart (w0.forCall (fun _ _ => 0) ⟨#[], args, []⟩).memory args fuel = true)
    (hx : X (w0.forCall (fun _ _ => 0) ⟨#[], args, []⟩).memory args) :
    ∃ (w : World) (tape : Tape) (i : Input), w.os = os ∧ (w.forCall tape i).Shaped C.prog ∧ i.vars = [] ∧ Input.okWide C.prog (w.forCall tape i) .any w.heap.size f i ∧
      ((s.pre enc C.prog fn conds apart (w.forCall tape i).memory i.args ∧ X (w.forCall tape i).memory i.args) ∧ sizedMet enc C.prog fn (OpenSpec.ofChange s) apart (w.forCall tape i).memory i.args) ∧ ({ calm := true } : Assume).holds C.prog (lone (Frame.enter C.prog f i.args .normal) [] (w.forCall tape i)) :=
  ⟨w0, fun _ _ => 0, ⟨#[], args, []⟩, hos, World.shaped_of_B hv hr, (Input.okWide_of_okWideB (base := 0) hok).1, (Input.okWide_of_okWideB hok).2, ⟨⟨ChangeSpec.pre_of_preB hpre, hx⟩, sizedMet_of_sizedB hsz⟩, by
    simp only [Assume.holds]
    exact ⟨by simp, fun _ _ _ _ => rfl, by simp, by simp, by simp⟩⟩
theorem returnsInLeavingWide_of_time {H : Type} {enc : TypeId × Value → H} {a : Assume} {C : Checked} {os : Os} {f : FuncId} {fn : Func} {s : ChangeSpec} {F : Stop.Interp} {conds : List PathCond} {apart fresh handsOn : Bool} {X : World → Array Value → Prop}
    (hX : ∀ (w w' : World) (args : Array Value), w.heap = w'.heap → X w args → X w' args)
    (own : ownKnob C.prog.godebug = none) (started : os.Started) (hfn : C.prog.funcs[f]? = some fn)
    (witness : ∃ (w : World) (tape : Tape) (i : Input), w.os = os ∧ (w.forCall tape i).Shaped C.prog ∧ i.vars = [] ∧ Input.okWide C.prog (w.forCall tape i) .any w.heap.size f i ∧
      ((s.pre enc C.prog fn conds apart (w.forCall tape i).memory i.args ∧ X (w.forCall tape i).memory i.args) ∧ sizedMet enc C.prog fn (OpenSpec.ofChange s) apart (w.forCall tape i).memory i.args) ∧ a.holds C.prog (lone (Frame.enter C.prog f i.args .normal) [] (w.forCall tape i)))
    (runs : ∀ (W : World) (base : Nat) (args : Array Value) (ds gs : List (DataW H)) (before : List MemPlace),
      (∀ (j : Nat) t v, fn.params[j]? = some t → args[j]? = some v → Value.okWide C.prog W .any base t v) →
      DataW.Whole enc C.prog fn.params.toList s.vars apart W args.toList ds gs before →
      conds.all (PathCond.test C.prog ⟨fn.params.toList, ds, s.plain.varTypes C.prog, gs⟩) = true → X W args →
      ∃ M last o w' t', runNT C.prog (M + 1) (solo (G (Frame.enter C.prog f args .normal) []) W) #[] = (.ended o w', t') ∧ runN C.prog M (solo (G (Frame.enter C.prog f args .normal) []) W) = .next last ∧
        step C.prog last = .ended o w' ∧ Conc.Good C.prog (fun v W' => s.post enc C.prog fn apart fresh handsOn false W args v W' ∧ W'.os = W.os) last o w' t') :
    ReturnsInLeavingWide a C os f .any (fun w args => (s.pre enc C.prog fn conds apart w args ∧ X w args) ∧ sizedMet enc C.prog fn (OpenSpec.ofChange s) apart w args) ((OpenSpec.ofChange s).postWith enc C.prog fn F (outsideKept [.timePasses]) apart fresh handsOn) := by
  refine returnsInLeavingWide_of_good own started witness ?_
  intro w tape i _ _ _ hok hpre hholds
  obtain ⟨_, _, _, fn', hfn', _, _, _, _, hval⟩ := hok
  have e : fn' = fn := Option.some.inj (hfn'.symm.trans hfn)
  subst e
  obtain ⟨⟨⟨ds, gs, before, hw, hc⟩, hx⟩, hz⟩ := hpre
  have hw' := DataW.Whole.of_heap (w' := w.forCall tape i) (by rfl) hw
  obtain ⟨M, last, o, w', t', h1, h2, h3, h4⟩ := runs (w.forCall tape i) w.heap.size i.args ds gs before hval hw' hc (hX _ _ _ (by rfl) hx)
  exact ⟨M, last, o, w', t', h1, h2, h3, h4.mono fun v hp => postWith_blind (postWith_of_post (by rw [put_os hp.2]; exact hp.1) (osLater_same hp.2))⟩
end Go.Proofs.YtdjoodbidcncaaaGreatDoor.AW
