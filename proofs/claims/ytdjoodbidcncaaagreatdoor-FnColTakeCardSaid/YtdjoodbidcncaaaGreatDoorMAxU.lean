/- Small words for walks by computation. -/
import Derived.Test.YtdjoodbidcncaaaGreatDoorMAxM
import Derived.Carry
import Derived.ProofKit
import Derived.Test.YtdjoodbidcncaaaGreatDoorRows
import Derived.Test.YtdjoodbidcncaaaGreatDoorCards
import Derived.Test.YtdjoodbidcncaaaGreatDoorTie
import Derived.OpenShut
import Derived.ChangeOld
import Derived.ChangeSlices
import Derived.LaidLaws
import Derived.LaidHandle
import Derived.Conc.LeavingOf
import Derived.Stop.Joined
import Derived.SevenTiedAt
set_option linter.unusedVariables false
set_option linter.unusedSimpArgs false
namespace Go.Proofs.YtdjoodbidcncaaaGreatDoor.AW
open Go

abbrev ci (x : Int) : List CV := [.sc (.int .i64 x)]
def rows {α : Type} (g : α → List CV) (l : List α) : List (List CV) := l.map g
abbrev iv64 (x : Int) : AV := .cv (.sc (.int .i64 x))
abbrev sl (l : List Int) (cap : Option Nat) : AV := .cv (.ro 1 (rows ci l) cap)
theorem rows_len {α : Type} (g : α → List CV) (l : List α) : (rows g l).length = l.length := by simp [rows]
theorem rows_get {α : Type} {g : α → List CV} {l : List α} {j : Nat} (h : j < l.length) : (rows g l)[j]? = some (g l[j]) := by simp [rows, h]
theorem wrap_i64 {z : Int} (h1 : -9223372036854775808 ≤ z) (h2 : z ≤ 9223372036854775807) : IntKind.i64.wrap z = z := wrap64 h1 h2
/-! two ways -/
theorem Br.dec {p : Prop} [Decidable p] {A B : Prop} (a : p → A) (b : ¬p → B) : Br (decide p) A B := ⟨fun h => a (of_decide_eq_true h), fun h => b (of_decide_eq_false h)⟩
theorem Br.yesd {p : Prop} [Decidable p] {A B : Prop} (a : A) (h : p := by omega) : Br (decide p) A B := .yes (decide_eq_true h) a
theorem Br.nod {p : Prop} [Decidable p] {A B : Prop} (b : B) (h : ¬p := by omega) : Br (decide p) A B := .no (decide_eq_false h) b
theorem Br.decn {p : Prop} [Decidable p] {A B : Prop} (a : ¬p → A) (b : p → B) : Br (!decide p) A B := ⟨fun h => a (by simpa using h), fun h => b (by simpa using h)⟩
theorem Br.yesn {p : Prop} [Decidable p] {A B : Prop} (a : A) (h : ¬p := by omega) : Br (!decide p) A B := .yes (by simp [h]) a
theorem Br.nodn {p : Prop} [Decidable p] {A B : Prop} (b : B) (h : p := by omega) : Br (!decide p) A B := .no (by simp [h]) b
theorem Br.nt {A B : Prop} (b : B) : Br (!true) A B := .no rfl b
theorem Br.nf {A B : Prop} (a : A) : Br (!false) A B := .yes rfl a
theorem Br.beq {b : Bool} {A B : Prop} (a : A) : Br (b == b) A B := .yes (by simp) a
theorem Br.bne {b : Bool} {A B : Prop} (k : B) : Br (b != b) A B := .no (by simp) k
theorem Br.tt {A B : Prop} (a : A) : Br true A B := .yes rfl a
theorem Br.ff {A B : Prop} (b : B) : Br false A B := .no rfl b
/-! steps -/
theorem d_chk {N : Nat} {draw : Bool} {ops : Array Oper} {l : List FP} {K : Prop} (k : K) (h : chk N draw ops l = true := by decide +kernel) : chk N draw ops l = true ∧ K := ⟨h, k⟩
theorem d_wrap {x : Int} {K : Int → Prop} (k : K x) (h : -9223372036854775808 ≤ x ∧ x ≤ 9223372036854775807 := by omega) : ∃ z, IntKind.i64.wrap x = z ∧ K z := ⟨x, wrap_i64 h.1 h.2, k⟩
theorem d_nat {n : Nat} {K : Nat → Prop} (k : K n) : ∃ j : Nat, (j : Int) = (n : Int) ∧ K j := ⟨n, rfl, k⟩
theorem d_nati {a : Int} {K : Nat → Prop} (k : K a.toNat) (h : 0 ≤ a := by omega) : ∃ j : Nat, (j : Int) = a ∧ K j := ⟨_, Int.toNat_of_nonneg h, k⟩
theorem d_get {α : Type} {g : α → List CV} {l : List α} {j : Nat} {K : List CV → Prop} (h : j < l.length) (k : K (g l[j])) : ∃ x, (rows g l)[j]? = some x ∧ K x := ⟨_, rows_get h, k⟩
theorem d_le {a b : Nat} {K : Prop} (k : K) (h : a ≤ b := by omega) : a ≤ b ∧ K := ⟨h, k⟩
theorem d_lt {a b : Nat} {K : Prop} (k : K) (h : a < b := by omega) : a < b ∧ K := ⟨h, k⟩
theorem d_left {k nx : Nat} {res x : AV} {H : Nat → Option Block} {Hout : List (Nat × Option Block)} (l : List (Nat × Nat)) (h1 : LeA (lk l) res x) (h2 : AllH (lk l) H Hout) (h : renOk k nx l = true := by decide +kernel) : ∃ l : List (Nat × Nat), renOk k nx l = true ∧ LeA (lk l) res x ∧ AllH (lk l) H Hout := ⟨l, h, h1, h2⟩
theorem d_sub {k nx : Nat} (l : List (Nat × Nat)) {st : St} {T : List (Nat × AV)} {H : List (Nat × Option Block)} (h1 : AllT (lk l) (get st.T) T) (h2 : AllH (lk l) (geth st.H) H) (h : renOk k nx l = true := by decide +kernel) : Sub k l st ⟨T, H, nx⟩ := ⟨h, h1, h2⟩
structure Hid (p : Prop) : Prop where
  out : p
theorem d_end {X : Type} {P : X → Prop} {μ : X → Nat} {I : X → St} {k : Nat} {st : St} {m : Nat} (x : X) (l : List (Nat × Nat)) (h1 : Sub k l st (I x)) (h2 : Hid (P x)) (h3 : μ x < m := by omega) : ∃ (x' : X) (l : List (Nat × Nat)), Sub k l st (I x') ∧ P x' ∧ μ x' < m := ⟨x, l, h1, h2.out, h3⟩
/-- a loop -/
theorem AW.loopP {N k : Nat} {c : Code} {st : St} {Q : Exit → St → Prop} {X : Type} (I : X → St) (P : X → Prop) (μ : X → Nat) (x₀ : X) (l₀ : List (Nat × Nat)) (h₀ : Sub k l₀ st (I x₀)) (p₀ : P x₀)
    (round : ∀ x, P x → vc ctx N k c (I x) fun e st' => match e with | .normal => ∃ (x' : X) (l : List (Nat × Nat)), Sub k l st' (I x') ∧ P x' ∧ μ x' < μ x | e => Q e st') : AW ctx N k (.loop c) st Q := by
  refine AW.loop (X := {x // P x}) (fun x => I x.1) (fun x => μ x.1) ⟨x₀, p₀⟩ l₀ h₀ fun ⟨x, hx⟩ => (vc_ok ctx_mixed c _ _ (round x hx)).mono fun e st' h => ?_
  cases e with
  | normal => obtain ⟨x', l, h1, h2, h3⟩ := h; exact ⟨⟨x', h2⟩, l, h1, h3⟩
  | _ => exact h
/-! what is told -/
theorem le_any {ρ : Nat → Option Nat} {x : AV} : LeA ρ .any x := by simp [LeA]
theorem sc_int {k : IntKind} {a b : Int} (h : a = b := by omega) : CV.sc (.int k a) = CV.sc (.int k b) := by rw [h]
theorem sc_bool {a b : Bool} (h : a = b) : CV.sc (.bool a) = CV.sc (.bool b) := by rw [h]
theorem sc_bt {p : Prop} [Decidable p] (h : Hid p) : CV.sc (.bool true) = CV.sc (.bool (decide p)) := by simp [h.out]
theorem sc_bf {p : Prop} [Decidable p] (h : Hid (¬p)) : CV.sc (.bool false) = CV.sc (.bool (decide p)) := by simp [h.out]
theorem sc_bb {p q : Prop} [Decidable p] [Decidable q] (h : Hid (p ↔ q)) : CV.sc (.bool (decide p)) = CV.sc (.bool (decide q)) := by simp [h.out]
theorem sc_bh {a b : Bool} (h : Hid (a = b)) : CV.sc (.bool a) = CV.sc (.bool b) := by rw [h.out]
theorem sc_ih {k : IntKind} {a b : Int} (h : Hid (a = b)) : CV.sc (.int k a) = CV.sc (.int k b) := by rw [h.out]
theorem tmod_nat (x y : Nat) : Int.tmod (x : Int) (y : Int) = ((x % y : Nat) : Int) := by simp [Int.tmod]
theorem d_rem {x y : Nat} {K : Int → Prop} (k : K ((x % y : Nat) : Int)) (h : (y : Int) ≠ 0 := by omega) : (y : Int) ≠ 0 ∧ ∃ z, Int.tmod (x : Int) (y : Int) = z ∧ K z := ⟨h, _, tmod_nat x y, k⟩
/-! loops of more names -/
structure X2 (A B : Type) where
  a : A
  b : B
structure X3 (A B C : Type) where
  a : A
  b : B
  c : C
theorem d_end2 {A B : Type} {P : A → B → Prop} {μ : A → B → Nat} {I : A → B → St} {k : Nat} {st : St} {m : Nat} (x : A) (y : B) (l : List (Nat × Nat)) (h1 : Sub k l st (I x y)) (h2 : Hid (P x y)) (h3 : μ x y < m := by omega) : ∃ (x' : A) (y' : B) (l : List (Nat × Nat)), Sub k l st (I x' y') ∧ P x' y' ∧ μ x' y' < m := ⟨x, y, l, h1, h2.out, h3⟩
theorem AW.loopP2 {N k : Nat} {c : Code} {st : St} {Q : Exit → St → Prop} {A B : Type} (I : A → B → St) (P : A → B → Prop) (μ : A → B → Nat) (x₀ : A) (y₀ : B) (l₀ : List (Nat × Nat)) (h₀ : Sub k l₀ st (I x₀ y₀)) (p₀ : P x₀ y₀)
    (round : ∀ x y, P x y → vc ctx N k c (I x y) fun e st' => match e with | .normal => ∃ (x' : A) (y' : B) (l : List (Nat × Nat)), Sub k l st' (I x' y') ∧ P x' y' ∧ μ x' y' < μ x y | e => Q e st') : AW ctx N k (.loop c) st Q := by
  refine AW.loop (X := {x : X2 A B // P x.a x.b}) (fun x => I x.1.a x.1.b) (fun x => μ x.1.a x.1.b) ⟨⟨x₀, y₀⟩, p₀⟩ l₀ h₀ fun ⟨⟨x, y⟩, hx⟩ => (vc_ok ctx_mixed c _ _ (round x y hx)).mono fun e st' h => ?_
  cases e with
  | normal => obtain ⟨x', y', l, h1, h2, h3⟩ := h; exact ⟨⟨⟨x', y'⟩, h2⟩, l, h1, h3⟩
  | _ => exact h
theorem d_end3 {A B D : Type} {P : A → B → D → Prop} {μ : A → B → D → Nat} {I : A → B → D → St} {k : Nat} {st : St} {m : Nat} (x : A) (y : B) (z : D) (l : List (Nat × Nat)) (h1 : Sub k l st (I x y z)) (h2 : Hid (P x y z)) (h3 : μ x y z < m := by omega) : ∃ (x' : A) (y' : B) (z' : D) (l : List (Nat × Nat)), Sub k l st (I x' y' z') ∧ P x' y' z' ∧ μ x' y' z' < m := ⟨x, y, z, l, h1, h2.out, h3⟩
theorem AW.loopP3 {N k : Nat} {c : Code} {st : St} {Q : Exit → St → Prop} {A B D : Type} (I : A → B → D → St) (P : A → B → D → Prop) (μ : A → B → D → Nat) (x₀ : A) (y₀ : B) (z₀ : D) (l₀ : List (Nat × Nat)) (h₀ : Sub k l₀ st (I x₀ y₀ z₀)) (p₀ : P x₀ y₀ z₀)
    (round : ∀ x y z, P x y z → vc ctx N k c (I x y z) fun e st' => match e with | .normal => ∃ (x' : A) (y' : B) (z' : D) (l : List (Nat × Nat)), Sub k l st' (I x' y' z') ∧ P x' y' z' ∧ μ x' y' z' < μ x y z | e => Q e st') : AW ctx N k (.loop c) st Q := by
  refine AW.loop (X := {x : X3 A B D // P x.a x.b x.c}) (fun x => I x.1.a x.1.b x.1.c) (fun x => μ x.1.a x.1.b x.1.c) ⟨⟨x₀, y₀, z₀⟩, p₀⟩ l₀ h₀ fun ⟨⟨x, y, z⟩, hx⟩ => (vc_ok ctx_mixed c _ _ (round x y z hx)).mono fun e st' h => ?_
  cases e with
  | normal => obtain ⟨x', y', z', l, h1, h2, h3⟩ := h; exact ⟨⟨⟨x', y', z'⟩, h2⟩, l, h1, h3⟩
  | _ => exact h
def seqI (k : Int) (n : Nat) : List Int := (List.range n).map fun i : Nat => k + i
abbrev nilS : AV := .cv (.sc (.slice none 0 0))
abbrev frP (n d : Int) : AV := .agg [iv .i64 n, iv .i64 d]
/-! data of the program -/
structure Prt where
  id : Int
  kind : Int
  side : Int
  list : List Int
deriving DecidableEq
abbrev prc (p : Prt) : List CV := [.sc (.int .i64 p.id), .sc (.int .i64 p.kind), .sc (.int .i64 p.side), .ro 1 (rows ci p.list) none]
abbrev frc (q : Int × Int) : List CV := [.sc (.int .i64 q.1), .sc (.int .i64 q.2)]
abbrev psl (l : List Prt) (cap : Option Nat) : AV := .cv (.ro 4 (rows prc l) cap)
abbrev fsl (l : List (Int × Int)) (cap : Option Nat) : AV := .cv (.ro 2 (rows frc l) cap)
abbrev frA (q : Int × Int) : AV := .agg [iv .i64 q.1, iv .i64 q.2]
structure Co where
  side : Int
  kind : Int
  sum : List Int
  ids : List Int
deriving DecidableEq
structure Ba where
  one : Co
  two : Co
  need : Int
deriving DecidableEq
structure Le where
  cap : Int × Int
  paid : List (Int × Int)
deriving DecidableEq
structure Wo where
  one : List Prt
  two : List Prt
  bat : Ba
  bad : List Int
  led : Le
  a : Int
  b : Int
deriving DecidableEq
abbrev coL (c : Co) : List AV := [iv .i64 c.side, iv .i64 c.kind, sl c.sum none, sl c.ids none]
abbrev baL (b : Ba) : List AV := [iv .i64 b.one.side, iv .i64 b.one.kind, sl b.one.sum none, sl b.one.ids none, iv .i64 b.two.side, iv .i64 b.two.kind, sl b.two.sum none, sl b.two.ids none, iv .i64 b.need]
abbrev leL (l : Le) : List AV := [iv .i64 l.cap.1, iv .i64 l.cap.2, fsl l.paid none]
abbrev woL (w : Wo) : List AV := [psl w.one none, psl w.two none, iv .i64 w.bat.one.side, iv .i64 w.bat.one.kind, sl w.bat.one.sum none, sl w.bat.one.ids none, iv .i64 w.bat.two.side, iv .i64 w.bat.two.kind, sl w.bat.two.sum none, sl w.bat.two.ids none, iv .i64 w.bat.need,
  sl w.bad none, iv .i64 w.led.cap.1, iv .i64 w.led.cap.2, fsl w.led.paid none, iv .i64 w.a, iv .i64 w.b]
abbrev Sm {α : Type} (l : List α) : Prop := l.length ≤ 4611686018427387904
def Co.sm (c : Co) : Prop := Sm c.sum ∧ Sm c.ids
def Ba.sm (b : Ba) : Prop := b.one.sm ∧ b.two.sm
def Wo.sm (w : Wo) : Prop := Sm w.one ∧ Sm w.two ∧ (∀ p ∈ w.one, Sm p.list) ∧ (∀ p ∈ w.two, Sm p.list) ∧ w.bat.sm ∧ Sm w.bad ∧ Sm w.led.paid
abbrev prA (p : Prt) : AV := .agg [iv .i64 p.id, iv .i64 p.kind, iv .i64 p.side, sl p.list none]
end Go.Proofs.YtdjoodbidcncaaaGreatDoor.AW

/- The outermost call, beside leavers. -/
namespace Go.Proofs.YtdjoodbidcncaaaGreatDoor.AW
open Go Go.Conc Go.RowKit
section
variable {C : Ctx}
theorem body_mk (hm : C.P.follows .mixedOrders = true) {f : FuncId} {fn : Func} {c : Code} {args : List AV} {Hin : List Block} {res : AV} {Hout : List (Nat × Option Block)} (nx : Nat) (hf : C.P.funcs[f]? = some fn) (hn : (fn.name == "runtime.NumGoroutine") = false) (hb : fn.body = some c)
    (hl : args.length ≤ fn.ntmps) (k : Nat) (hk : Hin.length = k) (h : vc C fn.ntmps k c ⟨tin 0 args, hin2 0 Hin, k⟩ (Left C k nx fn.results res Hout)) :
    ∀ (E : Emb) (w : World) (x : C.M.X) (vs : List Value), vs.length = args.length → (∀ (k : Nat) (x : AV), args[k]? = some x → RepA w E x (vs.getD k undef)) → HInv E (hin Hin) w → (∀ b, E.U b ↔ b < Hin.length) → C.M.ok x E w →
      C.M.Code f c (C.M.bodyM f fn fun v w' x' => ∃ E', RepA w' E' res v ∧ HInv E' (geth Hout) w' ∧ Ext (· < Hin.length) E w E' w' ∧ C.M.ok x' E' w' ∧ C.M.le x w.heap.size x') { tmps := vs.toArray ++ Array.replicate (fn.ntmps - vs.toArray.size) undef, defers := [] } w x := by
  subst hk
  intro E w x vs hvl hvs hh hU hok
  have hI : Inv C.M fn.ntmps Hin.length E ⟨tin 0 args, hin2 0 Hin, Hin.length⟩ { tmps := vs.toArray ++ Array.replicate (fn.ntmps - vs.toArray.size) undef, defers := [] } w x := by
    refine ⟨⟨fun t => ?_, by simp; omega, rfl⟩, ?_, fun b hb => (hU b).1 hb, fun b hb => (hU b).2 hb, hok⟩
    · simp only [get_tin, Nat.zero_le, if_true, Nat.sub_zero]
      cases ha : args[t]? with
      | none => exact .any _
      | some x =>
        have := hvs t x ha
        have hlt : t < vs.length := by rw [hvl]; exact (List.getElem?_eq_some_iff.1 ha).1
        have e : (vs.toArray ++ Array.replicate (fn.ntmps - vs.toArray.size) undef).getD t undef = vs.getD t undef := by
          simp only [Array.getD_eq_getD_getElem?]
          rw [Array.getElem?_append_left (by simpa using hlt)]
          simp [List.getD]
        rw [e]; exact this
    · have : geth (hin2 0 Hin) = hin Hin := by funext b; rw [geth_hin2]; simp [hin]
      simp only [this]; exact hh
  refine C.sound.mono (vc_ok hm c _ _ h f E _ w x hI) fun e a' w' x' ⟨st', E', h1, h2, h3, hle⟩ => ?_
  have fin : (vRes C st' fn.results.toList fun r => ∃ l : List (Nat × Nat), renOk Hin.length nx l = true ∧ LeA (lk l) res (one r) ∧ AllH (lk l) (geth st'.H) Hout) → a'.defers = [] ∧ ∀ w₁, C.M.Rel w' w₁ → ∃ v, (results fn a'.tmps).run C.P w₁ = .ok v w₁ ∧ C.M.evs x' w₁ (seen C.P f ((results fn a'.tmps).events C.P w₁ #[])) ∧
      ∃ E', RepA w₁ E' res v ∧ HInv E' (geth Hout) w₁ ∧ Ext (· < Hin.length) E w E' w₁ ∧ C.M.ok x' E' w₁ ∧ C.M.le x w.heap.size x' := fun hv => by
    refine ⟨h2.t.df, fun w₁ hrel => ?_⟩
    obtain ⟨hheap, hio⟩ := C.sound.rel hrel
    obtain ⟨s1, s2⟩ := h2.h.same hheap hio
    have st₁ := h2.t.mono s2 (fun _ h => h) h2.h.prfr
    have hok₁ := C.sound.okExt h2.ok s2
    have h3 := h3.trans (s2.weaken fun b hb => h2.k b hb)
    obtain ⟨r, ⟨l, q1, q2, q3⟩, hr⟩ := vRes_run hv
    obtain ⟨ws, e1, e2, e3, e4⟩ := hr _ E' a' w₁ st₁ s1
    obtain ⟨g1, g2⟩ := ren_heap q1 s1 h2.k q3
    have hone : RepA w₁ E' (one r) (if h : ws.toArray.size = 1 then ws.toArray[0] else .tuple ws.toArray) := by
      unfold one
      split
      · rename_i x
        have hws : ws.length = 1 := e2
        rw [dif_pos (by simpa using hws)]
        have := e3 0 x rfl
        have h0 : 0 < ws.length := by omega
        simpa [List.getD, h0] using this
      · rename_i hne
        have hws : ¬ ws.toArray.size = 1 := fun h => by
          have : r.length = 1 := by rw [← e2]; simpa using h
          obtain ⟨x, hx⟩ := List.length_eq_one_iff.1 this
          exact hne x hx
        rw [dif_neg hws]
        exact .tup _ _ (by simpa using e2) fun k y hy => by
          have := e3 k y hy
          simpa [List.getD, Array.getD_eq_getD_getElem?] using this
    refine ⟨_, ?_, C.sound.evSub (C.sound.okEv (es := (results fn a'.tmps).events C.P w₁ #[]) hok₁ (w' := w₁) ?_) seen_sub, _, LeA.rep q2 hone, g1, h3.trans g2, C.sound.okExt hok₁ g2, hle⟩
    · rw [results_eq, Array.mapM_eq_mapM_toList, Sem.run_bind, Sem.run_map, e1]
      rfl
    · rw [results_eq, Array.mapM_eq_mapM_toList]
      refine .union fun ev hev => ?_
      rcases mem_seq hev (show _ = Result.ok ws.toArray w₁ by rw [Sem.run_map, e1]; rfl) with h | h
      · rw [Sem.events_map] at h; exact e4.one h
      · simp at h
  cases e with
  | normal => exact fin h1
  | ret => exact fin h1
  | _ => exact h1.elim
end
/-- nothing is owned; all there is may be read -/
def rowE (w : World) : Emb := { blk := fun _ => 0, sz := fun _ => 0, U := fun _ => False, gh := fun _ => False, pr := (· < w.heap.size), fr := (· < w.heap.size) }
/-- ████ the outermost call of a law: it says true, on every schedule ████ -/
structure Top (f : FuncId) (args : List AV) : Prop where
  run : ∀ (w : World) (vs : List Value), vs.length = args.length → (∀ (k : Nat) (x : AV), args[k]? = some x → RepA w (rowE w) x (vs.getD k undef)) → Gl gl (rowE w) w →
    Ends Tryz.prog (fun v w' => v = .bool true ∧ Below w.heap.size w w') (shunOf fun _ => False) (G (Frame.enter Tryz.prog f vs.toArray .normal) []) w
theorem top_mk {f : FuncId} {fn : Func} {c : Code} {args : List AV} (hf : Tryz.prog.funcs[f]? = some fn) (hi : Tryz.prog.inits.idxOf? f = none) (hn : (fn.name == "runtime.NumGoroutine") = false) (hb : fn.body = some c)
    (hl : args.length ≤ fn.ntmps) (h : vc ctx fn.ntmps 0 c ⟨tin 0 args, hin2 0 [], 0⟩ (Left ctx 0 0 fn.results (bv true) [])) : Top f args := by
  refine ⟨fun w vs hvl hvs hgl => ?_⟩
  have hb' := body_mk (C := ctx) ctx_mixed 0 hf hn hb hl 0 rfl h (rowE w) w (show ctx.M.X from shunOf fun _ => False) vs hvl hvs ⟨fun b B h => by simp [hin] at h, fun b B h => by simp [hin] at h, fun b b' B B' h => by simp [hin] at h, fun r h => h, fun r h => h⟩ (fun b => by simp [rowE]) ⟨⟨_, rfl, ⟨fun _ _ h => h, fun _ h => h.elim, fun _ h => h.elim, fun _ h => h.elim⟩⟩, hgl⟩
  refine ends_of_wpE hi hf hb (wpE_mono hb' fun e a w' S' q => ?_)
  have fin : ∀ {v : Value} {w₁ : World} {x' : ctx.M.X}, (∃ E', RepA w₁ E' (bv true) v ∧ HInv E' (geth []) w₁ ∧ Ext (· < ([] : List Block).length) (rowE w) w E' w₁ ∧ ctx.M.ok x' E' w₁ ∧ ctx.M.le (show ctx.M.X from shunOf fun _ => False) w.heap.size x') → v = .bool true ∧ Below w.heap.size w w₁ := fun ⟨E', h2, h3, h4, _, _⟩ =>
    ⟨rep_sc h2, ⟨h4.io.1, h4.io.2.1, h4.io.2.2, h4.sz, fun k hk => h4.keep k hk⟩⟩
  cases e with
  | normal => exact ⟨q.1, fun w₁ hr => by obtain ⟨v, h1, h2, h3⟩ := q.2 w₁ hr; exact ⟨v, h1, h2, fin h3⟩⟩
  | ret => exact ⟨q.1, fun w₁ hr => by obtain ⟨v, h1, h2, h3⟩ := q.2 w₁ hr; exact ⟨v, h1, h2, fin h3⟩⟩
  | _ => exact q.elim
theorem past_none (S : Sh) (B : Nat) : Past S B #[] :=
  ⟨fun said => by rintro ⟨i, j, _, ⟨a, b, ha, _⟩, _⟩; simp [Trace.act?] at ha, fun i a ha => by simp [touchAt, Trace.act?] at ha, fun i g hg => by simp [Trace.g?] at hg, rfl, by simp⟩
theorem Top.good {f : FuncId} {args : List AV} (T : Top f args) {W : World} {vs : List Value} (hl : vs.length = args.length) (hr : ∀ (k : Nat) (x : AV), args[k]? = some x → RepA W (rowE W) x (vs.getD k undef)) (hg : Gl gl (rowE W) W) :
    ∃ M last o w' t', runNT Tryz.prog (M + 1) (solo (G (Frame.enter Tryz.prog f vs.toArray .normal) []) W) #[] = (.ended o w', t') ∧ runN Tryz.prog M (solo (G (Frame.enter Tryz.prog f vs.toArray .normal) []) W) = .next last ∧
      step Tryz.prog last = .ended o w' ∧ Conc.Good Tryz.prog (fun v W' => v = .bool true ∧ Below W.heap.size W W') last o w' t' := by
  have := T.run W vs hl hr hg #[G (Frame.enter Tryz.prog f vs.toArray .normal) []] none #[] (fun _ => 0) W (atRel_refl _) (by simp) (leavers_one _ _) (past_none _ _)
  rw [← solo_eq_crowd] at this
  exact this
end Go.Proofs.YtdjoodbidcncaaaGreatDoor.AW

/- From the outermost call of a law to a row that says 'leaving', and its tied card. -/
namespace Go.Proofs.YtdjoodbidcncaaaGreatDoor.AW
open Go Go.ChangeShapes Go.WideShapes Go.ChangeAt Go.RowKit Go.Conc
set_option linter.unusedVariables false
theorem all_nil {w : World} {E : Emb} {vs : List Value} : ∀ (k : Nat) (x : AV), ([] : List AV)[k]? = some x → RepA w E x (vs.getD k undef) := by simp
theorem all_cons {w : World} {E : Emb} {x : AV} {v : Value} {args : List AV} {vs : List Value} (h : RepA w E x v) (t : ∀ (k : Nat) (x : AV), args[k]? = some x → RepA w E x (vs.getD k undef)) :
    ∀ (k : Nat) (y : AV), (x :: args)[k]? = some y → RepA w E y ((v :: vs).getD k undef)
  | 0, y, hy => by simp only [List.getElem?_cons_zero, Option.some.injEq] at hy; subst hy; exact h
  | k + 1, y, hy => t k y (by simpa using hy)
theorem rep_int {w : World} {E : Emb} {k : IntKind} (a : Int) : RepA w E (.cv (.sc (.int k a))) (.int k a) := .cv _ _ (.sc _ rfl)
theorem rep_bool {w : World} {E : Emb} (a : Bool) : RepA w E (.cv (.sc (.bool a))) (.bool a) := .cv _ _ (.sc _ rfl)
theorem rep_aggL {w : World} {E : Emb} {cs : List AV} {vs : Array Value} (hs : vs.toList.length = cs.length) (h : ∀ (k : Nat) (x : AV), cs[k]? = some x → RepA w E x (vs.toList.getD k undef)) : RepA w E (.agg cs) (.agg vs) :=
  .agg _ _ (by simpa using hs) fun k x hx => by have := h k x hx; simpa [List.getD, Array.getD_eq_getD_getElem?] using this
/-- a slice of ints that came in -/
structure SlAt (w : World) (v : Value) (l : List Int) : Prop where
  rep : RepA w (rowE w) (sl l none) v
  len : l.length ≤ 9223372036854775807
section
variable {H : Type} {enc : TypeId × Value → H} {w : World} {base : Nat} {spare : Nat → Bool} {held : Bool}
theorem int_of {t n : Nat} {k : IntKind} {cs : List Value} {x : DataW H × List MemPlace} (ht : Tryz.prog.underlying t = some (.int k)) (h : DataW.trod enc Tryz.prog w base spare held n t cs = some x) : ∃ a, cs = [.int k a] ∧ (Lit.int k a).wf = true := by
  obtain ⟨a, e, _, hw⟩ := DataW.trod_int ht h
  exact ⟨a, e, hw⟩
theorem cells_int : Tryz.prog.cellsOf 3 = 1 := by kernel_rfl
theorem open_sl {n : Nat} {cs : List Value} {x : DataW H × List MemPlace} (h : DataW.trod enc Tryz.prog w base spare held n 23 cs = some x) : ∃ v l, cs = [v] ∧ SlAt w v l := by
  rcases open_ints Tryz.underlying23 Tryz.underlying3 cells_int h with ⟨rfl, _⟩ | ⟨a, len, cap, zs, rfl, hb, hl, hm, hz, hx, hc, _⟩
  · refine ⟨_, [], rfl, .cv _ _ (.ro _ _ _ none 0 0 (fun _ _ => undef) rfl (Nat.le_refl _) (fun x hx => by cases hx) (by simp [rows]) (by simp [rows]) (by simp [rows])), by simp⟩
  · have hlz : len ≤ zs.length := by rw [hz]; split <;> omega
    have hsp : ∀ i, i < zs.length → (a.add i).spot = none := fun i hi => World.cell?_spot (hc i hi)
    refine ⟨_, zs.take len, rfl, .cv _ _ (.ro _ _ _ (some a) len cap (fun i _ => .int .i64 (zs.getD i 0)) (by simp [rows]; omega) hl (fun x hx => by cases hx) (fun e he => ?_) (fun i e he => ?_) (fun i e k x he hx => ?_)), ?_⟩
    · simp only [rows, List.mem_map] at he
      obtain ⟨_, _, rfl⟩ := he; rfl
    · have hi : i < (zs.take len).length := by have := (List.getElem?_eq_some_iff.1 he).1; simpa [rows] using this
      have hi2 : i < zs.length := by simp at hi; omega
      rw [rows_get hi] at he
      cases he
      have h0 := hc 0 (by omega)
      have hspa : a.spot = none := by have := hsp 0 (by omega); simpa [Addr.add] using this
      have hlt : a.block < w.heap.size := by
        have : (a.add 0).block < w.heap.size := Nat.lt_of_not_le fun hle => by
          simp [World.cell?, Array.getElem?_eq_none hle] at h0
        simpa [Addr.add] using this
      refine ⟨a, rfl, hspa, hlt, fun k x hx => ?_⟩
      cases k with
      | zero =>
        have := hc i hi2
        obtain ⟨b, off, sp⟩ := a
        have hspa : sp = none := hspa
        subst hspa
        simpa [cellAt, Go.WideShapes.add_plain] using this
      | succ k => simp at hx
    · have hi : i < (zs.take len).length := by have := (List.getElem?_eq_some_iff.1 he).1; simpa [rows] using this
      have hi2 : i < zs.length := by simp at hi; omega
      rw [rows_get hi] at he
      cases he
      cases k with
      | zero =>
        simp at hx
        subst hx
        rw [show zs.getD i 0 = zs[i] by simp [List.getD, hi2]]
        exact .sc (.int .i64 _) rfl
      | succ k => simp at hx
    · have : cap ≤ 9223372036854775807 := hm
      simp; omega
end
/-! the package-level variable that is laid -/
theorem own : ownKnob Tryz.prog.godebug = none := by kernel_rfl
theorem laidOut : laidOutB Tryz.prog = true := by kernel_rfl
theorem g_et : Tryz.prog.globalNamed "errors.errorType" = some 1 := by kernel_rfl
theorem g_rt : (Tryz.prog.cutTypes.find? (·.1 == "internal/reflectlite.rtype")).map (·.2) = some 214 := by kernel_rfl
theorem g_size : Tryz.prog.types.size = (Tryz.prog.types.size) := rfl
theorem g_row : ((List.range Tryz.prog.types.size).filter fun t => Tryz.prog.rowNamed t [101, 114, 114, 111, 114]) = [139] := by kernel_rfl
abbrev laid1 : List (String × DataW Unit) := [("errors.errorType", Rows.laid_errors_errorType)]
theorem handle_of_laid {W : World} (h : laidMetH Tryz.prog laid1 W) : W.cell? ⟨1, 0, none⟩ = some (.iface 214 (.agg #[.pointer (some ⟨2, 139, none⟩)])) := by
  have h' : laidMet Tryz.prog [] W ∧ handlesMet Tryz.prog laid1 W := h
  obtain ⟨name, u, ty, e1, e2, e3, e4, e5⟩ := h'.2 _ (List.mem_singleton.2 rfl)
  have en : name = [101, 114, 114, 111, 114] := (Option.some.inj e1).symm
  subst en
  obtain rfl := Option.some.inj (g_rt.symm.trans e2)
  have hm : ty ∈ (List.range Tryz.prog.types.size).filter fun t => Tryz.prog.rowNamed t [101, 114, 114, 111, 114] := List.mem_filter.2 ⟨List.mem_range.2 e3, e4⟩
  rw [g_row] at hm
  obtain rfl := List.mem_singleton.1 hm
  have hh : typeHandle Tryz.prog 139 = .pointer (some ⟨2, 139, none⟩) := by kernel_rfl
  rw [hh] at e5
  simpa using World.var?_cell g_et e5 0
theorem gl_of_laid {W : World} (h : laidMetH Tryz.prog laid1 W) : Gl gl (rowE W) W := by
  have hc := handle_of_laid h
  have hlt := cell_lt hc
  intro p hp
  simp only [gl, List.mem_singleton] at hp
  subst hp
  exact ⟨hlt, hlt, hc⟩
noncomputable def laidWorld (os : Os) : World :=
  let w0 := World.holding Tryz.prog os ⟨#[], #[], []⟩
  { w0 with heap := w0.heap.modify 1 fun
      | .cells _ t frozen => .cells #[.iface 214 (.agg #[.pointer (some ⟨2, 139, none⟩)])] t frozen
      | o => o }
theorem laidWorld_met (os : Os) (args : Array Value) : laidMetH Tryz.prog laid1 ((laidWorld os).forCall (fun _ _ => 0) ⟨#[], args, []⟩).memory :=
  laidMetH_of_parts (laidMet_nil _ _) (by kernel_rfl)
/-! from good runs to the row -/
theorem returnsInLeavingWide_of_and {H : Type} {enc : TypeId × Value → H} {a : Assume} {C : Checked} {os : Os} {f : FuncId} {fn : Func} {s : ChangeSpec} {conds : List PathCond} {apart fresh handsOn again : Bool} {X : World → Array Value → Prop}
    (hX : ∀ (w w' : World) (args : Array Value), w.heap = w'.heap → X w args → X w' args)
    (own : ownKnob C.prog.godebug = none) (started : os.Started) (hfn : C.prog.funcs[f]? = some fn)
    (witness : ∃ (w : World) (tape : Tape) (i : Input), w.os = os ∧ (w.forCall tape i).Shaped C.prog ∧ i.vars = [] ∧ Input.okWide C.prog (w.forCall tape i) .any w.heap.size f i ∧
      ((s.pre enc C.prog fn conds apart (w.forCall tape i).memory i.args ∧ X (w.forCall tape i).memory i.args) ∧ sizedMet enc C.prog fn (OpenSpec.ofChange s) apart (w.forCall tape i).memory i.args) ∧ a.holds C.prog (lone (Frame.enter C.prog f i.args .normal) [] (w.forCall tape i)))
    (runs : ∀ (W : World) (base : Nat) (args : Array Value) (ds gs : List (DataW H)) (before : List MemPlace),
      (∀ (j : Nat) t v, fn.params[j]? = some t → args[j]? = some v → Value.okWide C.prog W .any base t v) →
      DataW.Whole enc C.prog fn.params.toList s.vars apart W args.toList ds gs before →
      conds.all (PathCond.test C.prog ⟨fn.params.toList, ds, s.plain.varTypes C.prog, gs⟩) = true → X W args →
      ∃ M last o w' t', runNT C.prog (M + 1) (solo (G (Frame.enter C.prog f args .normal) []) W) #[] = (.ended o w', t') ∧ runN C.prog M (solo (G (Frame.enter C.prog f args .normal) []) W) = .next last ∧
        step C.prog last = .ended o w' ∧ Conc.Good C.prog (fun v W' => s.post enc C.prog fn apart fresh handsOn again W args v W') last o w' t') :
    ReturnsInLeavingWide a C os f .any (fun w args => (s.pre enc C.prog fn conds apart w args ∧ X w args) ∧ sizedMet enc C.prog fn (OpenSpec.ofChange s) apart w args) (s.post enc C.prog fn apart fresh handsOn again) := by
  refine returnsInLeavingWide_of_good own started witness ?_
  intro w tape i _ _ _ hok hpre hholds
  obtain ⟨_, _, _, fn', hfn', _, _, _, _, hval⟩ := hok
  have e : fn' = fn := Option.some.inj (hfn'.symm.trans hfn)
  subst e
  obtain ⟨⟨⟨ds, gs, before, hw, hc⟩, hx⟩, hz⟩ := hpre
  have hw' := DataW.Whole.of_heap (w' := w.forCall tape i) (by rfl) hw
  obtain ⟨M, last, o, w', t', h1, h2, h3, h4⟩ := runs (w.forCall tape i) w.heap.size i.args ds gs before hval hw' hc (hX _ _ _ (by rfl) hx)
  exact ⟨M, last, o, w', t', h1, h2, h3, h4.mono fun v hp => ChangeSpec.post_blind hp⟩
theorem card_of {p : Pinned} {s : OpenSpec} {c : OpenClaim} (kinds : List LaidKind) (har : Bool × String)
    (hc : c.holds p s) (hw : c.wfByText s = true) (htie : c.laidByTextAt .later p kinds true)
    (hst : c.start = .entering) (hnb : c.noBlocks = false ∧ c.again = false) (hm : p.checked.prog.mainIs = some (har.1, har.2.toList))
    (hl : ∀ f fn, p.checked.prog.funcNamed c.func = some f → p.checked.prog.funcs[f]? = some fn → true = p.checked.prog.looks [] ∧ ∀ (j : Nat) t, fn.params[j]? = some t → p.checked.prog.wantsStandIn t = false)
    (hg : true = c.goesBy p.checked.prog) :
    Claim7.holds p (.plain s) { stood := { row := c, standIns := [], harness := har, looks := true }, kinds := [], alts := [], goes := true, laidByText := true, laidKinds := kinds, laidTests := true, laidLooks := .later } := by
  have h6 : ∀ r : OpenClaim, Claim7.isSixth { stood := { row := r, standIns := [], harness := har, looks := true }, kinds := [] } = false := fun r => by simp [Claim7.isSixth]
  exact ⟨Claim7.tied_new_at .later kinds true (Claim7.new_of_sixth hc har true hst hnb hm (h6 c) hl) hw, (fun D hD => by cases hD), htie, (fun h => by cases h), hg⟩
end Go.Proofs.YtdjoodbidcncaaaGreatDoor.AW
