/- impl.LedgerPay and spec.LedgerPay. -/
import Derived.Test.YtfebbpihcngjoaaPay
namespace Go.Proofs.Ytfebbpihcngjoaa
open Go.RowKit
set_option linter.unusedVariables false
set_option linter.unusedSimpArgs false

structure Led where
  cap : Fr
  paid : List Fr
def Led.ok (l : Led) : Bool := ledOk l.cap l.paid
def Led.zero : Led := ⟨Fr.zero, []⟩
def payL (l : Led) (f : Fr) : Led × Bool :=
  if l.ok && f.ok then (if Led.ok ⟨l.cap, l.paid ++ [f]⟩ then (⟨l.cap, l.paid ++ [f]⟩, true) else (l, false)) else (Led.zero, false)

theorem ledOk_len {cap : Fr} {fs : List Fr} (h : ledOk cap fs = true) : fs.length ≤ 8 := by
  simp [ledOk] at h; omega

theorem cells2 {w : World} {b : Nat} {x y : Value} (h0 : w.cell? ⟨b, 0, none⟩ = some x) (h1 : w.cell? ⟨b, 1, none⟩ = some y) : ∀ j u, [x, y][j]? = some u → w.cell? ((⟨b, 0, none⟩ : Addr).add j) = some u := by
  intro j u hu
  match j with
  | 0 => simp at hu; subst hu; exact h0
  | 1 => simp at hu; subst hu; exact h1
  | j + 2 => simp at hu

theorem OwnFr.nil (w : World) (B : Nat) : OwnFr w B (.slice none 0 0) [] := ⟨none, 0, rfl, Nat.le_refl _, fun _ => ⟨rfl, rfl⟩, .inl rfl⟩

theorem OwnFr.olds {w : World} {B : Nat} {ao : Option Addr} {n cap : Nat} {fs : List Fr} (h : OwnFr w B (.slice ao n cap) fs) : ∀ b, ao = some b → ∀ j u, (fcells fs)[j]? = some u → w.cell? (b.add j) = some u := by
  rintro b rfl j u hj
  obtain ⟨a', cap', e, hl, h0, _⟩ := id h
  injection e with e1 e2 e3
  subst e1 e2
  have hne : fs ≠ [] := by rintro rfl; simp [fcells] at hj
  exact h.reads.news hne j u hj

theorem grownF {w : World} {B : Nat} {v : Value} {fs : List Fr} {f : Fr} (h : w.ownsRow B 28 2 v (fs.length + 1) (fcells fs ++ [.int .i64 f.n, .int .i64 f.d])) :
    ∃ a cap, v = .slice a (fs.length + 1) cap ∧ fs.length + 1 ≤ cap ∧ (a = none → fs.length + 1 = 0) ∧ Hid (OwnFr w B (.slice a (fs.length + 1) cap) (fs ++ [f])) := by
  have h1 : OwnF w B v (fs ++ [f]) := by unfold OwnF; rw [List.length_append, fcells_append]; exact h
  have h2 := h1.fr
  obtain ⟨a, cap, e, hl, hn⟩ := h2.form
  subst e
  have hs : (fs ++ [f]).length = fs.length + 1 := by simp
  rw [hs] at hl hn h2 ⊢
  exact ⟨a, cap, rfl, hl, hn, Lib.hid h2⟩

set_option maxRecDepth 20000 in
set_option maxHeartbeats 2000000 in
theorem iLedgerPay_c (cn cd : Int) (v : Value) (fs : List Fr) (f : Fr) (w : World) (hI : FracsAt w v fs) :
    Calls Try.prog 10 #[.agg #[.int .i64 cn, .int .i64 cd, v], f.v] w fun e w' => ∃ v', e = .returned (.tuple #[.agg #[.int .i64 (payL ⟨⟨cn, cd⟩, fs⟩ f).1.cap.n, .int .i64 (payL ⟨⟨cn, cd⟩, fs⟩ f).1.cap.d, v'], .bool (payL ⟨⟨cn, cd⟩, fs⟩ f).2]) ∧
      OwnFr w' w.heap.size v' (payL ⟨⟨cn, cd⟩, fs⟩ f).1.paid ∧ Below w.heap.size w w' := by
  obtain ⟨a, cap, rfl, hcap, h⟩ := id hI
  have hnr : ∀ Y, Below w.heap.size w Y → FracsAt Y (.slice a fs.length cap) fs := fun Y hY => hI.below hY
  have Hnr := Lib.hid hnr
  clear hI hnr h
  obtain ⟨fn, fd⟩ := f
  simp only [Fr.v]
  cases hl : ledOk ⟨cn, cd⟩ fs
  · have hp : payL ⟨⟨cn, cd⟩, fs⟩ ⟨fn, fd⟩ = (Led.zero, false) := by unfold payL Led.ok; exact if_neg (by simp [hl])
    rw [hp]
    have Hl := Lib.hid hl
    clear hp hl
    go_enter Try.func10, Try.ntmps10
    go_wp2_with fail
    refine (iLedgerOk_c ⟨cn, cd⟩ _ fs _ (Hnr.out _ (by repeat' (first | with_reducible exact bl_refl _ | with_reducible apply bl_alloc | with_reducible apply bl_drewN | with_reducible apply bl_drew | with_reducible apply bl_set | with_reducible refine bl_call (by assumption) ?_ | (simp; done) | (simp; omega) | omega)))).mono ?_; rintro e w1 ⟨rfl, hb1⟩; rw [Hl.out]; have hzw1_0 : w.heap.size < w1.heap.size := (by have hzz := hb1.size; (try simp at hzz); omega); have hzw1_1 : w.heap.size + 1 < w1.heap.size := (by have hzz := hb1.size; (try simp at hzz); omega); have hzw1_2 : w.heap.size + 1 + 1 < w1.heap.size := (by have hzz := hb1.size; (try simp at hzz); omega); have Lw1 := Locals.call hb1 (L := [(⟨w.heap.size, 0, none⟩, .int .i64 cn), (⟨w.heap.size, 1, none⟩, .int .i64 cd), (⟨w.heap.size, 2, none⟩, .slice a fs.length cap), (⟨w.heap.size + 1, 0, none⟩, .int .i64 fn), (⟨w.heap.size + 1, 1, none⟩, .int .i64 fd), (⟨w.heap.size + 1 + 1, 0, none⟩, .int .i64 0), (⟨w.heap.size + 1 + 1, 1, none⟩, .int .i64 0), (⟨w.heap.size + 1 + 1, 2, none⟩, .slice none 0 0)]) (by simp only [Locals]; repeat' (first | exact trivial | apply And.intro) <;> go_simp); obtain ⟨⟨cw1_0, fw1_0⟩, ⟨cw1_1, fw1_1⟩, ⟨cw1_2, fw1_2⟩, ⟨cw1_3, fw1_3⟩, ⟨cw1_4, fw1_4⟩, ⟨cw1_5, fw1_5⟩, ⟨cw1_6, fw1_6⟩, ⟨cw1_7, fw1_7⟩, -⟩ := Lw1
    go_wp2_with fail
    refine bodyPost_ret (v := .tuple #[.agg #[.int .i64 0, .int .i64 0, .slice none 0 0], .bool false]) (by simp only [results, Try.results10]; go_simp) rfl ⟨_, rfl, OwnFr.nil _ _, (by repeat' (first | with_reducible exact bl_refl _ | with_reducible apply bl_alloc | with_reducible apply bl_drewN | with_reducible apply bl_drew | with_reducible apply bl_set | with_reducible refine bl_call (by assumption) ?_ | (simp; done) | (simp; omega) | omega))⟩
  · have hlen := ledOk_len hl
    have Hl := Lib.hid hl
    cases hf : fracOkB fn fd
    · have hp : payL ⟨⟨cn, cd⟩, fs⟩ ⟨fn, fd⟩ = (Led.zero, false) := by unfold payL Fr.ok; exact if_neg (by simp [hf])
      rw [hp]
      have Hf := Lib.hid hf
      clear hp hl hf
      go_enter Try.func10, Try.ntmps10
      go_wp2_with fail
      refine (iLedgerOk_c ⟨cn, cd⟩ _ fs _ (Hnr.out _ (by repeat' (first | with_reducible exact bl_refl _ | with_reducible apply bl_alloc | with_reducible apply bl_drewN | with_reducible apply bl_drew | with_reducible apply bl_set | with_reducible refine bl_call (by assumption) ?_ | (simp; done) | (simp; omega) | omega)))).mono ?_; rintro e w1 ⟨rfl, hb1⟩; rw [Hl.out]; have hzw1_0 : w.heap.size < w1.heap.size := (by have hzz := hb1.size; (try simp at hzz); omega); have hzw1_1 : w.heap.size + 1 < w1.heap.size := (by have hzz := hb1.size; (try simp at hzz); omega); have hzw1_2 : w.heap.size + 1 + 1 < w1.heap.size := (by have hzz := hb1.size; (try simp at hzz); omega); have Lw1 := Locals.call hb1 (L := [(⟨w.heap.size, 0, none⟩, .int .i64 cn), (⟨w.heap.size, 1, none⟩, .int .i64 cd), (⟨w.heap.size, 2, none⟩, .slice a fs.length cap), (⟨w.heap.size + 1, 0, none⟩, .int .i64 fn), (⟨w.heap.size + 1, 1, none⟩, .int .i64 fd), (⟨w.heap.size + 1 + 1, 0, none⟩, .int .i64 0), (⟨w.heap.size + 1 + 1, 1, none⟩, .int .i64 0), (⟨w.heap.size + 1 + 1, 2, none⟩, .slice none 0 0)]) (by simp only [Locals]; repeat' (first | exact trivial | apply And.intro) <;> go_simp); obtain ⟨⟨cw1_0, fw1_0⟩, ⟨cw1_1, fw1_1⟩, ⟨cw1_2, fw1_2⟩, ⟨cw1_3, fw1_3⟩, ⟨cw1_4, fw1_4⟩, ⟨cw1_5, fw1_5⟩, ⟨cw1_6, fw1_6⟩, ⟨cw1_7, fw1_7⟩, -⟩ := Lw1
      go_wp2_with fail
      refine (iFracOk_c _ _ _).mono ?_; rintro e w2 ⟨rfl, hb2⟩; rw [Hf.out]; have hzw2_0 : w.heap.size < w2.heap.size := (by have hzz := hb2.size; (try simp at hzz); omega); have hzw2_1 : w.heap.size + 1 < w2.heap.size := (by have hzz := hb2.size; (try simp at hzz); omega); have hzw2_2 : w.heap.size + 1 + 1 < w2.heap.size := (by have hzz := hb2.size; (try simp at hzz); omega); have Lw2 := Locals.call hb2 (L := [(⟨w.heap.size, 0, none⟩, .int .i64 cn), (⟨w.heap.size, 1, none⟩, .int .i64 cd), (⟨w.heap.size, 2, none⟩, .slice a fs.length cap), (⟨w.heap.size + 1, 0, none⟩, .int .i64 fn), (⟨w.heap.size + 1, 1, none⟩, .int .i64 fd), (⟨w.heap.size + 1 + 1, 0, none⟩, .int .i64 0), (⟨w.heap.size + 1 + 1, 1, none⟩, .int .i64 0), (⟨w.heap.size + 1 + 1, 2, none⟩, .slice none 0 0)]) (by simp only [Locals]; repeat' (first | exact trivial | apply And.intro) <;> go_simp); obtain ⟨⟨cw2_0, fw2_0⟩, ⟨cw2_1, fw2_1⟩, ⟨cw2_2, fw2_2⟩, ⟨cw2_3, fw2_3⟩, ⟨cw2_4, fw2_4⟩, ⟨cw2_5, fw2_5⟩, ⟨cw2_6, fw2_6⟩, ⟨cw2_7, fw2_7⟩, -⟩ := Lw2
      go_wp2_with fail
      refine bodyPost_ret (v := .tuple #[.agg #[.int .i64 0, .int .i64 0, .slice none 0 0], .bool false]) (by simp only [results, Try.results10]; go_simp) rfl ⟨_, rfl, OwnFr.nil _ _, (by repeat' (first | with_reducible exact bl_refl _ | with_reducible apply bl_alloc | with_reducible apply bl_drewN | with_reducible apply bl_drew | with_reducible apply bl_set | with_reducible refine bl_call (by assumption) ?_ | (simp; done) | (simp; omega) | omega))⟩
    · have Hf := Lib.hid hf
      obtain ⟨r, hr⟩ : ∃ r, ledOk ⟨cn, cd⟩ (fs ++ [⟨fn, fd⟩]) = r := ⟨_, rfl⟩
      have hp : payL ⟨⟨cn, cd⟩, fs⟩ ⟨fn, fd⟩ = cond r (⟨⟨cn, cd⟩, fs ++ [⟨fn, fd⟩]⟩, true) (⟨⟨cn, cd⟩, fs⟩, false) := by
        unfold payL Led.ok Fr.ok; rw [if_pos (by simp [hl, hf])]; simp only [hr]; cases r <;> rfl
      rw [hp]
      have Hr := Lib.hid hr
      clear hp hl hf hr
      obtain ⟨i0, hi, hz0, hz1, hz2⟩ := info_parts Try.infoFrac
      go_enter Try.func10, Try.ntmps10
      go_wp2_with fail
      refine (iLedgerOk_c ⟨cn, cd⟩ _ fs _ (Hnr.out _ (by repeat' (first | with_reducible exact bl_refl _ | with_reducible apply bl_alloc | with_reducible apply bl_drewN | with_reducible apply bl_drew | with_reducible apply bl_set | with_reducible refine bl_call (by assumption) ?_ | (simp; done) | (simp; omega) | omega)))).mono ?_; rintro e w1 ⟨rfl, hb1⟩; rw [Hl.out]; have hzw1_0 : w.heap.size < w1.heap.size := (by have hzz := hb1.size; (try simp at hzz); omega); have hzw1_1 : w.heap.size + 1 < w1.heap.size := (by have hzz := hb1.size; (try simp at hzz); omega); have hzw1_2 : w.heap.size + 1 + 1 < w1.heap.size := (by have hzz := hb1.size; (try simp at hzz); omega); have Lw1 := Locals.call hb1 (L := [(⟨w.heap.size, 0, none⟩, .int .i64 cn), (⟨w.heap.size, 1, none⟩, .int .i64 cd), (⟨w.heap.size, 2, none⟩, .slice a fs.length cap), (⟨w.heap.size + 1, 0, none⟩, .int .i64 fn), (⟨w.heap.size + 1, 1, none⟩, .int .i64 fd), (⟨w.heap.size + 1 + 1, 0, none⟩, .int .i64 0), (⟨w.heap.size + 1 + 1, 1, none⟩, .int .i64 0), (⟨w.heap.size + 1 + 1, 2, none⟩, .slice none 0 0)]) (by simp only [Locals]; repeat' (first | exact trivial | apply And.intro) <;> go_simp); obtain ⟨⟨cw1_0, fw1_0⟩, ⟨cw1_1, fw1_1⟩, ⟨cw1_2, fw1_2⟩, ⟨cw1_3, fw1_3⟩, ⟨cw1_4, fw1_4⟩, ⟨cw1_5, fw1_5⟩, ⟨cw1_6, fw1_6⟩, ⟨cw1_7, fw1_7⟩, -⟩ := Lw1
      go_wp2_with fail
      refine (iFracOk_c _ _ _).mono ?_; rintro e w2 ⟨rfl, hb2⟩; rw [Hf.out]; have hzw2_0 : w.heap.size < w2.heap.size := (by have hzz := hb2.size; (try simp at hzz); omega); have hzw2_1 : w.heap.size + 1 < w2.heap.size := (by have hzz := hb2.size; (try simp at hzz); omega); have hzw2_2 : w.heap.size + 1 + 1 < w2.heap.size := (by have hzz := hb2.size; (try simp at hzz); omega); have Lw2 := Locals.call hb2 (L := [(⟨w.heap.size, 0, none⟩, .int .i64 cn), (⟨w.heap.size, 1, none⟩, .int .i64 cd), (⟨w.heap.size, 2, none⟩, .slice a fs.length cap), (⟨w.heap.size + 1, 0, none⟩, .int .i64 fn), (⟨w.heap.size + 1, 1, none⟩, .int .i64 fd), (⟨w.heap.size + 1 + 1, 0, none⟩, .int .i64 0), (⟨w.heap.size + 1 + 1, 1, none⟩, .int .i64 0), (⟨w.heap.size + 1 + 1, 2, none⟩, .slice none 0 0)]) (by simp only [Locals]; repeat' (first | exact trivial | apply And.intro) <;> go_simp); obtain ⟨⟨cw2_0, fw2_0⟩, ⟨cw2_1, fw2_1⟩, ⟨cw2_2, fw2_2⟩, ⟨cw2_3, fw2_3⟩, ⟨cw2_4, fw2_4⟩, ⟨cw2_5, fw2_5⟩, ⟨cw2_6, fw2_6⟩, ⟨cw2_7, fw2_7⟩, -⟩ := Lw2
      go_wp2_with fail
      refine (copiedL_c _ _ _ fs _ (Hnr.out _ (by repeat' (first | with_reducible exact bl_refl _ | with_reducible apply bl_alloc | with_reducible apply bl_drewN | with_reducible apply bl_drew | with_reducible apply bl_set | with_reducible refine bl_call (by assumption) ?_ | (simp; done) | (simp; omega) | omega))) (by omega)).mono ?_; rintro e w3 ⟨a3, rfl, hown3, hb3⟩; have hzw3_0 : w.heap.size < w3.heap.size := (by have hzz := hb3.size; (try simp at hzz); omega); have hzw3_1 : w.heap.size + 1 < w3.heap.size := (by have hzz := hb3.size; (try simp at hzz); omega); have hzw3_2 : w.heap.size + 1 + 1 < w3.heap.size := (by have hzz := hb3.size; (try simp at hzz); omega); have Lw3 := Locals.call hb3 (L := [(⟨w.heap.size, 0, none⟩, .int .i64 cn), (⟨w.heap.size, 1, none⟩, .int .i64 cd), (⟨w.heap.size, 2, none⟩, .slice a fs.length cap), (⟨w.heap.size + 1, 0, none⟩, .int .i64 fn), (⟨w.heap.size + 1, 1, none⟩, .int .i64 fd), (⟨w.heap.size + 1 + 1, 0, none⟩, .int .i64 0), (⟨w.heap.size + 1 + 1, 1, none⟩, .int .i64 0), (⟨w.heap.size + 1 + 1, 2, none⟩, .slice none 0 0)]) (by simp only [Locals]; repeat' (first | exact trivial | apply And.intro) <;> go_simp); obtain ⟨⟨cw3_0, fw3_0⟩, ⟨cw3_1, fw3_1⟩, ⟨cw3_2, fw3_2⟩, ⟨cw3_3, fw3_3⟩, ⟨cw3_4, fw3_4⟩, ⟨cw3_5, fw3_5⟩, ⟨cw3_6, fw3_6⟩, ⟨cw3_7, fw3_7⟩, -⟩ := Lw3
      have hown3' := ((hown3.alloc (.cells #[.int .i64 cn, .int .i64 cd, .slice a3 fs.length fs.length] 31)).alloc (.cells #[.int .i64 fn, .int .i64 fd] 28)).olds
      have h3n : a3 = none → fs.length = 0 ∧ fs.length = 0 := by obtain ⟨x1, x2, x3, x4, x5, -⟩ := hown3; injection x3 with y1 y2 y3; subst y1; intro e; have := x5 e; omega
      have Hown3' := Lib.hid hown3'
      have H3n := Lib.hid h3n
      have Hown3 := Lib.hid hown3
      clear hown3' h3n hown3
      go_wp2_with (at_builtin; refine stop ?_)
      refine goon ?_
      refine wpList_append_grows _ rfl _ _ 29 rfl 28 i0 (.agg #[.int .i64 0, .int .i64 0]) 2 16 Try.underlying29 hi hz0 hz1 hz2 rfl (by decide) a3 fs.length fs.length (fcells fs) rfl H3n.out (fcells_length fs) Hown3'.out ⟨w3.heap.size + 1, 0, none⟩ 1 1 [.int .i64 fn, .int .i64 fd] rfl rfl (cells2 (by go_simp) (by go_simp)) (fcells_one [⟨fn, fd⟩]) (by omega) (by unfold maxLen; omega) (by omega) ?_
      intro v4 w4 hown4 hgrow4; have hb4 := Below.grown (bl_refl _) hgrow4 (Nat.le_refl _) (fun _ h => by cases h); have hzw4_0 : w.heap.size < w4.heap.size := (by have hzz := hb4.size; (try simp at hzz); omega); have hzw4_1 : w.heap.size + 1 + 1 < w4.heap.size := (by have hzz := hb4.size; (try simp at hzz); omega); have hzw4_2 : w3.heap.size < w4.heap.size := (by have hzz := hb4.size; (try simp at hzz); omega); have Lw4 := Locals.call hb4 (L := [(⟨w.heap.size, 0, none⟩, .int .i64 cn), (⟨w.heap.size, 1, none⟩, .int .i64 cd), (⟨w.heap.size, 2, none⟩, .slice a fs.length cap), (⟨w.heap.size + 1 + 1, 0, none⟩, .int .i64 0), (⟨w.heap.size + 1 + 1, 1, none⟩, .int .i64 0), (⟨w.heap.size + 1 + 1, 2, none⟩, .slice none 0 0), (⟨w3.heap.size, 0, none⟩, .int .i64 cn), (⟨w3.heap.size, 1, none⟩, .int .i64 cd), (⟨w3.heap.size, 2, none⟩, .slice a3 fs.length fs.length)]) (by simp only [Locals]; repeat' (first | exact trivial | apply And.intro) <;> go_simp); obtain ⟨⟨cw4_0, fw4_0⟩, ⟨cw4_1, fw4_1⟩, ⟨cw4_2, fw4_2⟩, ⟨cw4_3, fw4_3⟩, ⟨cw4_4, fw4_4⟩, ⟨cw4_5, fw4_5⟩, ⟨cw4_6, fw4_6⟩, ⟨cw4_7, fw4_7⟩, ⟨cw4_8, fw4_8⟩, -⟩ := Lw4; have Hown4 := Lib.hid hown4; clear hown4 hgrow4; obtain ⟨a4, cap4, rfl, h4l, h4n, Hfr4⟩ := grownF (f := ⟨fn, fd⟩) Hown4.out; have H4n := Lib.hid h4n; have Hb4 := Lib.hid hb4
      go_wp2_with fail
      refine (clipF_c a4 (fs.length + 1) cap4 _ h4l (by omega) H4n.out).mono ?_; rintro e w5 ⟨rfl, rfl⟩
      have Hfr4' : Hid (OwnFr (w4.setCell ⟨w3.heap.size, 2, none⟩ (.slice a4 (fs.length + 1) (fs.length + 1))) w3.heap.size (.slice a4 (fs.length + 1) (fs.length + 1)) (fs ++ [⟨fn, fd⟩])) := Lib.hid ((Hfr4.out.clip.set (x := ⟨w3.heap.size, 2, none⟩) (by simp; omega) _).low (by simp; omega))
      go_wp2_with fail
      refine (iLedgerOk_c ⟨cn, cd⟩ _ _ _ Hfr4'.out.reads).mono ?_; rintro e w6 ⟨rfl, hb6⟩; rw [Hr.out]; have hzw6_0 : w.heap.size < w6.heap.size := (by have hzz := hb6.size; (try simp at hzz); omega); have hzw6_1 : w.heap.size + 1 + 1 < w6.heap.size := (by have hzz := hb6.size; (try simp at hzz); omega); have hzw6_2 : w3.heap.size < w6.heap.size := (by have hzz := hb6.size; (try simp at hzz); omega); have Lw6 := Locals.call hb6 (L := [(⟨w.heap.size, 0, none⟩, .int .i64 cn), (⟨w.heap.size, 1, none⟩, .int .i64 cd), (⟨w.heap.size, 2, none⟩, .slice a fs.length cap), (⟨w.heap.size + 1 + 1, 0, none⟩, .int .i64 0), (⟨w.heap.size + 1 + 1, 1, none⟩, .int .i64 0), (⟨w.heap.size + 1 + 1, 2, none⟩, .slice none 0 0), (⟨w3.heap.size, 0, none⟩, .int .i64 cn), (⟨w3.heap.size, 1, none⟩, .int .i64 cd), (⟨w3.heap.size, 2, none⟩, .slice a4 (fs.length + 1) (fs.length + 1))]) (by simp only [Locals]; repeat' (first | exact trivial | apply And.intro) <;> go_simp); obtain ⟨⟨cw6_0, fw6_0⟩, ⟨cw6_1, fw6_1⟩, ⟨cw6_2, fw6_2⟩, ⟨cw6_3, fw6_3⟩, ⟨cw6_4, fw6_4⟩, ⟨cw6_5, fw6_5⟩, ⟨cw6_6, fw6_6⟩, ⟨cw6_7, fw6_7⟩, ⟨cw6_8, fw6_8⟩, -⟩ := Lw6
      have Hfr6 := Lib.hid (Hfr4'.out.below hb6)
      cases r
      · go_wp2_with fail
        refine (copiedL_c _ _ _ fs _ (Hnr.out _ (by repeat' (first | with_reducible exact bl_refl _ | with_reducible apply bl_alloc | with_reducible apply bl_drewN | with_reducible apply bl_drew | with_reducible apply bl_set | with_reducible refine bl_call (by assumption) ?_ | (simp; done) | (simp; omega) | omega))) (by omega)).mono ?_; rintro e w7 ⟨a7, rfl, hown7, hb7⟩; have hzw7_0 : w.heap.size + 1 + 1 < w7.heap.size := (by have hzz := hb7.size; (try simp at hzz); omega); have Lw7 := Locals.call hb7 (L := [(⟨w.heap.size + 1 + 1, 0, none⟩, .int .i64 0), (⟨w.heap.size + 1 + 1, 1, none⟩, .int .i64 0), (⟨w.heap.size + 1 + 1, 2, none⟩, .slice none 0 0)]) (by simp only [Locals]; repeat' (first | exact trivial | apply And.intro) <;> go_simp); obtain ⟨⟨cw7_0, fw7_0⟩, ⟨cw7_1, fw7_1⟩, ⟨cw7_2, fw7_2⟩, -⟩ := Lw7
        have Hown7 := Lib.hid hown7; clear hown7
        go_wp2_with fail
        refine bodyPost_ret (v := .tuple #[.agg #[.int .i64 cn, .int .i64 cd, .slice a7 fs.length fs.length], .bool false]) (by simp only [results, Try.results10]; go_simp) rfl ⟨_, rfl, (((Hown7.out.set (by (try simp); omega) _).set (by (try simp); omega) _).set (by (try simp); omega) _).low (by (try simp); omega), (by repeat' (first | with_reducible exact bl_refl _ | with_reducible apply bl_alloc | with_reducible apply bl_drewN | with_reducible apply bl_drew | with_reducible apply bl_set | with_reducible refine bl_call (by assumption) ?_ | (simp; done) | (simp; omega) | omega))⟩
      · go_wp2_with fail
        refine bodyPost_ret (v := .tuple #[.agg #[.int .i64 cn, .int .i64 cd, .slice a4 (fs.length + 1) (fs.length + 1)], .bool true]) (by simp only [results, Try.results10]; go_simp) rfl ⟨_, rfl, (((Hfr6.out.set (by (try simp); omega) _).set (by (try simp); omega) _).set (by (try simp); omega) _).low (by (try simp); omega), (by repeat' (first | with_reducible exact bl_refl _ | with_reducible apply bl_alloc | with_reducible apply bl_drewN | with_reducible apply bl_drew | with_reducible apply bl_set | with_reducible refine bl_call (by assumption) ?_ | (simp; done) | (simp; omega) | omega))⟩

end Go.Proofs.Ytfebbpihcngjoaa
