/- Small words for walks by computation. -/
import Derived.Test.YtnffoddeppimkaaAwT
namespace Go.Proofs.Ytnffoddeppimkaa.AW
open Go

abbrev ci (x : Int) : List CV := [.sc (.int .i64 x)]
def rows {α : Type} (g : α → List CV) (l : List α) : List (List CV) := l.map g
abbrev iv64 (x : Int) : AV := .cv (.sc (.int .i64 x))
abbrev sl (l : List Int) (cap : Option Nat) : AV := .cv (.ro 1 (rows ci l) cap)
theorem rows_len {α : Type} (g : α → List CV) (l : List α) : (rows g l).length = l.length := by simp [rows]
theorem rows_get {α : Type} {g : α → List CV} {l : List α} {j : Nat} (h : j < l.length) : (rows g l)[j]? = some (g l[j]) := by simp [rows, h]
theorem wrap_i64 {z : Int} (h1 : -9223372036854775808 ≤ z) (h2 : z ≤ 9223372036854775807) : IntKind.i64.wrap z = z := wrap64 h1 h2
/-! two ways -/
theorem Br.dec {p : Prop} [Decidable p] {A B : Prop} (a : p → A) (b : ¬p → B) : Br (decide p) A B := ⟨fun h => a (of_decide_eq_true h), fun h => b (of_decide_eq_false h)⟩
theorem Br.yesd {p : Prop} [Decidable p] {A B : Prop} (a : A) (h : p := by omega) : Br (decide p) A B := .yes (decide_eq_true h) a
theorem Br.nod {p : Prop} [Decidable p] {A B : Prop} (b : B) (h : ¬p := by omega) : Br (decide p) A B := .no (decide_eq_false h) b
theorem Br.decn {p : Prop} [Decidable p] {A B : Prop} (a : ¬p → A) (b : p → B) : Br (!decide p) A B := ⟨fun h => a (by simpa using h), fun h => b (by simpa using h)⟩
theorem Br.yesn {p : Prop} [Decidable p] {A B : Prop} (a : A) (h : ¬p := by omega) : Br (!decide p) A B := .yes (by simp [h]) a
theorem Br.nodn {p : Prop} [Decidable p] {A B : Prop} (b : B) (h : p := by omega) : Br (!decide p) A B := .no (by simp [h]) b
theorem Br.nt {A B : Prop} (b : B) : Br (!true) A B := .no rfl b
theorem Br.nf {A B : Prop} (a : A) : Br (!false) A B := .yes rfl a
theorem Br.beq {b : Bool} {A B : Prop} (a : A) : Br (b == b) A B := .yes (by simp) a
theorem Br.bne {b : Bool} {A B : Prop} (k : B) : Br (b != b) A B := .no (by simp) k
theorem Br.tt {A B : Prop} (a : A) : Br true A B := .yes rfl a
theorem Br.ff {A B : Prop} (b : B) : Br false A B := .no rfl b
/-! steps -/
theorem d_chk {N : Nat} {draw : Bool} {ops : Array Oper} {l : List FP} {K : Prop} (k : K) (h : chk N draw ops l = true := by decide +kernel) : chk N draw ops l = true ∧ K := ⟨h, k⟩
theorem d_wrap {x : Int} {K : Int → Prop} (k : K x) (h : -9223372036854775808 ≤ x ∧ x ≤ 9223372036854775807 := by omega) : ∃ z, IntKind.i64.wrap x = z ∧ K z := ⟨x, wrap_i64 h.1 h.2, k⟩
theorem d_nat {n : Nat} {K : Nat → Prop} (k : K n) : ∃ j : Nat, (j : Int) = (n : Int) ∧ K j := ⟨n, rfl, k⟩
theorem d_nati {a : Int} {K : Nat → Prop} (k : K a.toNat) (h : 0 ≤ a := by omega) : ∃ j : Nat, (j : Int) = a ∧ K j := ⟨_, Int.toNat_of_nonneg h, k⟩
theorem d_get {α : Type} {g : α → List CV} {l : List α} {j : Nat} {K : List CV → Prop} (h : j < l.length) (k : K (g l[j])) : ∃ x, (rows g l)[j]? = some x ∧ K x := ⟨_, rows_get h, k⟩
theorem d_le {a b : Nat} {K : Prop} (k : K) (h : a ≤ b := by omega) : a ≤ b ∧ K := ⟨h, k⟩
theorem d_lt {a b : Nat} {K : Prop} (k : K) (h : a < b := by omega) : a < b ∧ K := ⟨h, k⟩
theorem d_left {k nx : Nat} {res x : AV} {H : Nat → Option Block} {Hout : List (Nat × Option Block)} (l : List (Nat × Nat)) (h1 : LeA (lk l) res x) (h2 : AllH (lk l) H Hout) (h : renOk k nx l = true := by decide +kernel) : ∃ l : List (Nat × Nat), renOk k nx l = true ∧ LeA (lk l) res x ∧ AllH (lk l) H Hout := ⟨l, h, h1, h2⟩
theorem d_sub {k nx : Nat} (l : List (Nat × Nat)) {st : St} {T : List (Nat × AV)} {H : List (Nat × Option Block)} (h1 : AllT (lk l) (get st.T) T) (h2 : AllH (lk l) (geth st.H) H) (h : renOk k nx l = true := by decide +kernel) : Sub k l st ⟨T, H, nx⟩ := ⟨h, h1, h2⟩
structure Hid (p : Prop) : Prop where
  out : p
theorem d_end {X : Type} {P : X → Prop} {μ : X → Nat} {I : X → St} {k : Nat} {st : St} {m : Nat} (x : X) (l : List (Nat × Nat)) (h1 : Sub k l st (I x)) (h2 : Hid (P x)) (h3 : μ x < m := by omega) : ∃ (x' : X) (l : List (Nat × Nat)), Sub k l st (I x') ∧ P x' ∧ μ x' < m := ⟨x, l, h1, h2.out, h3⟩
/-- a loop -/
theorem AW.loopP {N k : Nat} {c : Code} {st : St} {Q : Exit → St → Prop} {X : Type} (I : X → St) (P : X → Prop) (μ : X → Nat) (x₀ : X) (l₀ : List (Nat × Nat)) (h₀ : Sub k l₀ st (I x₀)) (p₀ : P x₀)
    (round : ∀ x, P x → vc ctx N k c (I x) fun e st' => match e with | .normal => ∃ (x' : X) (l : List (Nat × Nat)), Sub k l st' (I x') ∧ P x' ∧ μ x' < μ x | e => Q e st') : AW ctx N k (.loop c) st Q := by
  refine AW.loop (X := {x // P x}) (fun x => I x.1) (fun x => μ x.1) ⟨x₀, p₀⟩ l₀ h₀ fun ⟨x, hx⟩ => (vc_ok ctx_mixed c _ _ (round x hx)).mono fun e st' h => ?_
  cases e with
  | normal => obtain ⟨x', l, h1, h2, h3⟩ := h; exact ⟨⟨x', h2⟩, l, h1, h3⟩
  | _ => exact h
/-! what is told -/
theorem le_any {ρ : Nat → Option Nat} {x : AV} : LeA ρ .any x := by simp [LeA]
theorem sc_int {k : IntKind} {a b : Int} (h : a = b := by omega) : CV.sc (.int k a) = CV.sc (.int k b) := by rw [h]
theorem sc_bool {a b : Bool} (h : a = b) : CV.sc (.bool a) = CV.sc (.bool b) := by rw [h]
theorem sc_bt {p : Prop} [Decidable p] (h : Hid p) : CV.sc (.bool true) = CV.sc (.bool (decide p)) := by simp [h.out]
theorem sc_bf {p : Prop} [Decidable p] (h : Hid (¬p)) : CV.sc (.bool false) = CV.sc (.bool (decide p)) := by simp [h.out]
theorem sc_bb {p q : Prop} [Decidable p] [Decidable q] (h : Hid (p ↔ q)) : CV.sc (.bool (decide p)) = CV.sc (.bool (decide q)) := by simp [h.out]
theorem sc_bh {a b : Bool} (h : Hid (a = b)) : CV.sc (.bool a) = CV.sc (.bool b) := by rw [h.out]
theorem sc_ih {k : IntKind} {a b : Int} (h : Hid (a = b)) : CV.sc (.int k a) = CV.sc (.int k b) := by rw [h.out]
theorem tmod_nat (x y : Nat) : Int.tmod (x : Int) (y : Int) = ((x % y : Nat) : Int) := by simp [Int.tmod]
theorem d_rem {x y : Nat} {K : Int → Prop} (k : K ((x % y : Nat) : Int)) (h : (y : Int) ≠ 0 := by omega) : (y : Int) ≠ 0 ∧ ∃ z, Int.tmod (x : Int) (y : Int) = z ∧ K z := ⟨h, _, tmod_nat x y, k⟩
/-! loops of more names -/
structure X2 (A B : Type) where
  a : A
  b : B
structure X3 (A B C : Type) where
  a : A
  b : B
  c : C
theorem d_end2 {A B : Type} {P : A → B → Prop} {μ : A → B → Nat} {I : A → B → St} {k : Nat} {st : St} {m : Nat} (x : A) (y : B) (l : List (Nat × Nat)) (h1 : Sub k l st (I x y)) (h2 : Hid (P x y)) (h3 : μ x y < m := by omega) : ∃ (x' : A) (y' : B) (l : List (Nat × Nat)), Sub k l st (I x' y') ∧ P x' y' ∧ μ x' y' < m := ⟨x, y, l, h1, h2.out, h3⟩
theorem AW.loopP2 {N k : Nat} {c : Code} {st : St} {Q : Exit → St → Prop} {A B : Type} (I : A → B → St) (P : A → B → Prop) (μ : A → B → Nat) (x₀ : A) (y₀ : B) (l₀ : List (Nat × Nat)) (h₀ : Sub k l₀ st (I x₀ y₀)) (p₀ : P x₀ y₀)
    (round : ∀ x y, P x y → vc ctx N k c (I x y) fun e st' => match e with | .normal => ∃ (x' : A) (y' : B) (l : List (Nat × Nat)), Sub k l st' (I x' y') ∧ P x' y' ∧ μ x' y' < μ x y | e => Q e st') : AW ctx N k (.loop c) st Q := by
  refine AW.loop (X := {x : X2 A B // P x.a x.b}) (fun x => I x.1.a x.1.b) (fun x => μ x.1.a x.1.b) ⟨⟨x₀, y₀⟩, p₀⟩ l₀ h₀ fun ⟨⟨x, y⟩, hx⟩ => (vc_ok ctx_mixed c _ _ (round x y hx)).mono fun e st' h => ?_
  cases e with
  | normal => obtain ⟨x', y', l, h1, h2, h3⟩ := h; exact ⟨⟨⟨x', y'⟩, h2⟩, l, h1, h3⟩
  | _ => exact h
theorem d_end3 {A B D : Type} {P : A → B → D → Prop} {μ : A → B → D → Nat} {I : A → B → D → St} {k : Nat} {st : St} {m : Nat} (x : A) (y : B) (z : D) (l : List (Nat × Nat)) (h1 : Sub k l st (I x y z)) (h2 : Hid (P x y z)) (h3 : μ x y z < m := by omega) : ∃ (x' : A) (y' : B) (z' : D) (l : List (Nat × Nat)), Sub k l st (I x' y' z') ∧ P x' y' z' ∧ μ x' y' z' < m := ⟨x, y, z, l, h1, h2.out, h3⟩
theorem AW.loopP3 {N k : Nat} {c : Code} {st : St} {Q : Exit → St → Prop} {A B D : Type} (I : A → B → D → St) (P : A → B → D → Prop) (μ : A → B → D → Nat) (x₀ : A) (y₀ : B) (z₀ : D) (l₀ : List (Nat × Nat)) (h₀ : Sub k l₀ st (I x₀ y₀ z₀)) (p₀ : P x₀ y₀ z₀)
    (round : ∀ x y z, P x y z → vc ctx N k c (I x y z) fun e st' => match e with | .normal => ∃ (x' : A) (y' : B) (z' : D) (l : List (Nat × Nat)), Sub k l st' (I x' y' z') ∧ P x' y' z' ∧ μ x' y' z' < μ x y z | e => Q e st') : AW ctx N k (.loop c) st Q := by
  refine AW.loop (X := {x : X3 A B D // P x.a x.b x.c}) (fun x => I x.1.a x.1.b x.1.c) (fun x => μ x.1.a x.1.b x.1.c) ⟨⟨x₀, y₀, z₀⟩, p₀⟩ l₀ h₀ fun ⟨⟨x, y, z⟩, hx⟩ => (vc_ok ctx_mixed c _ _ (round x y z hx)).mono fun e st' h => ?_
  cases e with
  | normal => obtain ⟨x', y', z', l, h1, h2, h3⟩ := h; exact ⟨⟨⟨x', y', z'⟩, h2⟩, l, h1, h3⟩
  | _ => exact h
def seqI (k : Int) (n : Nat) : List Int := (List.range n).map fun i : Nat => k + i
abbrev nilS : AV := .cv (.sc (.slice none 0 0))
abbrev frP (n d : Int) : AV := .agg [iv .i64 n, iv .i64 d]
/-! data of the program -/
structure Prt where
  id : Int
  kind : Int
  side : Int
  list : List Int
deriving DecidableEq
abbrev prc (p : Prt) : List CV := [.sc (.int .i64 p.id), .sc (.int .i64 p.kind), .sc (.int .i64 p.side), .ro 1 (rows ci p.list) none]
abbrev frc (q : Int × Int) : List CV := [.sc (.int .i64 q.1), .sc (.int .i64 q.2)]
abbrev psl (l : List Prt) (cap : Option Nat) : AV := .cv (.ro 4 (rows prc l) cap)
abbrev fsl (l : List (Int × Int)) (cap : Option Nat) : AV := .cv (.ro 2 (rows frc l) cap)
abbrev frA (q : Int × Int) : AV := .agg [iv .i64 q.1, iv .i64 q.2]
structure Co where
  side : Int
  kind : Int
  sum : List Int
  ids : List Int
deriving DecidableEq
structure Ba where
  one : Co
  two : Co
  need : Int
deriving DecidableEq
structure Le where
  cap : Int × Int
  paid : List (Int × Int)
deriving DecidableEq
structure Wo where
  one : List Prt
  two : List Prt
  bat : Ba
  bad : List Int
  led : Le
  a : Int
  b : Int
deriving DecidableEq
abbrev coL (c : Co) : List AV := [iv .i64 c.side, iv .i64 c.kind, sl c.sum none, sl c.ids none]
abbrev baL (b : Ba) : List AV := [iv .i64 b.one.side, iv .i64 b.one.kind, sl b.one.sum none, sl b.one.ids none, iv .i64 b.two.side, iv .i64 b.two.kind, sl b.two.sum none, sl b.two.ids none, iv .i64 b.need]
abbrev leL (l : Le) : List AV := [iv .i64 l.cap.1, iv .i64 l.cap.2, fsl l.paid none]
abbrev woL (w : Wo) : List AV := [psl w.one none, psl w.two none, iv .i64 w.bat.one.side, iv .i64 w.bat.one.kind, sl w.bat.one.sum none, sl w.bat.one.ids none, iv .i64 w.bat.two.side, iv .i64 w.bat.two.kind, sl w.bat.two.sum none, sl w.bat.two.ids none, iv .i64 w.bat.need,
  sl w.bad none, iv .i64 w.led.cap.1, iv .i64 w.led.cap.2, fsl w.led.paid none, iv .i64 w.a, iv .i64 w.b]
abbrev Sm {α : Type} (l : List α) : Prop := l.length ≤ 4611686018427387904
def Co.sm (c : Co) : Prop := Sm c.sum ∧ Sm c.ids
def Ba.sm (b : Ba) : Prop := b.one.sm ∧ b.two.sm
def Wo.sm (w : Wo) : Prop := Sm w.one ∧ Sm w.two ∧ (∀ p ∈ w.one, Sm p.list) ∧ (∀ p ∈ w.two, Sm p.list) ∧ w.bat.sm ∧ Sm w.bad ∧ Sm w.led.paid
abbrev prA (p : Prt) : AV := .agg [iv .i64 p.id, iv .i64 p.kind, iv .i64 p.side, sl p.list none]
end Go.Proofs.Ytnffoddeppimkaa.AW
