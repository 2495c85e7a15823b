/- The types of this seat's program. -/
import Derived.Test.YtnffoddeppimkaaAwP
import Derived.Test.YtnffoddeppimkaaProg
namespace Go.Proofs.Ytnffoddeppimkaa.AW
open Go
inductive TT where
  | leaf
  | node (l : TT) (k : Nat) (v : TI) (r : TT)
theorem info_of {P : Program} {t : TypeId} {i : TypeInfo} (h : P.types[t]? = some i) : P.info? t = some i := by
  have : t < P.types.size := (Array.getElem?_eq_some_iff.1 h).1
  simp only [Tables.info?]
  rw [if_pos this]; exact h
def TT.find : TT → Nat → Option TI
  | .leaf, _ => none
  | .node l k v r, t => match Nat.beq t k with
    | true => some v
    | false => match Nat.blt t k with
      | true => l.find t
      | false => r.find t
def TT.All (P : Nat → TI → Prop) : TT → Prop
  | .leaf => True
  | .node l k v r => l.All P ∧ P k v ∧ r.All P
theorem TT.find_all {P : Nat → TI → Prop} : ∀ {s : TT} {t : Nat} {i : TI}, s.All P → s.find t = some i → P t i
  | .leaf, _, _, _, h => by cases h
  | .node l k v r, t, i, ha, h => by
    simp only [TT.find] at h
    split at h
    · rename_i e
      have := Nat.eq_of_beq_eq_true e
      cases h; subst this; exact ha.2.1
    · split at h
      · exact TT.find_all ha.1 h
      · exact TT.find_all ha.2.2 h
def ty2 : TI := ⟨false, 1, 8, .int .i64, [(.int .i64 0)]⟩
theorem ty2_ok : TIok Try.prog 2 ty2 := ⟨⟨_, info_of Try.type2, rfl, rfl, _, rfl, ⟨_, rfl, rfl, rfl⟩⟩, ⟨_, Try.underlying2, rfl, rfl⟩, rfl, rfl⟩
def ty3 : TI := ⟨false, 1, 8, .int .i64, [(.int .i64 0)]⟩
theorem ty3_ok : TIok Try.prog 3 ty3 := ⟨⟨_, info_of Try.type3, rfl, rfl, _, rfl, ⟨_, rfl, rfl, rfl⟩⟩, ⟨_, Try.underlying3, rfl, rfl⟩, rfl, rfl⟩
def ty4 : TI := ⟨false, 1, 1, .bool, [(.bool false)]⟩
theorem ty4_ok : TIok Try.prog 4 ty4 := ⟨⟨_, info_of Try.type4, rfl, rfl, _, rfl, ⟨_, rfl, rfl, rfl⟩⟩, ⟨_, Try.underlying4, rfl, rfl⟩, rfl, rfl⟩
def ty5 : TI := ⟨false, 1, 1, .int .u8, [(.int .u8 0)]⟩
theorem ty5_ok : TIok Try.prog 5 ty5 := ⟨⟨_, info_of Try.type5, rfl, rfl, _, rfl, ⟨_, rfl, rfl, rfl⟩⟩, ⟨_, Try.underlying5, rfl, rfl⟩, rfl, rfl⟩
def ty6 : TI := ⟨false, 1, 1, .int .u8, [(.int .u8 0)]⟩
theorem ty6_ok : TIok Try.prog 6 ty6 := ⟨⟨_, info_of Try.type6, rfl, rfl, _, rfl, ⟨_, rfl, rfl, rfl⟩⟩, ⟨_, Try.underlying6, rfl, rfl⟩, rfl, rfl⟩
def ty7 : TI := ⟨true, 4, 24, .strct [(0, 2), (1, 3), (2, 4), (3, 6)], [(.int .i64 0), (.int .i64 0), (.bool false), (.int .u8 0)]⟩
theorem ty7_ok : TIok Try.prog 7 ty7 := ⟨⟨_, info_of Try.type7, rfl, rfl, _, rfl, rfl⟩, ⟨_, Try.underlying7, rfl, ⟨_, rfl, rfl⟩⟩, rfl, rfl⟩
def ty8 : TI := ⟨true, 4, 24, .strct [(0, 2), (1, 3), (2, 4), (3, 6)], [(.int .i64 0), (.int .i64 0), (.bool false), (.int .u8 0)]⟩
theorem ty8_ok : TIok Try.prog 8 ty8 := ⟨⟨_, info_of Try.type8, rfl, rfl, _, rfl, rfl⟩, ⟨_, Try.underlying8, rfl, ⟨_, rfl, rfl⟩⟩, rfl, rfl⟩
def ty9 : TI := ⟨false, 1, 16, .str, [(.string .empty)]⟩
theorem ty9_ok : TIok Try.prog 9 ty9 := ⟨⟨_, info_of Try.type9, rfl, rfl, _, rfl, ⟨_, rfl, rfl, rfl⟩⟩, ⟨_, Try.underlying9, rfl, rfl⟩, rfl, rfl⟩
def ty10 : TI := ⟨false, 1, 16, .str, [(.string .empty)]⟩
theorem ty10_ok : TIok Try.prog 10 ty10 := ⟨⟨_, info_of Try.type10, rfl, rfl, _, rfl, ⟨_, rfl, rfl, rfl⟩⟩, ⟨_, Try.underlying10, rfl, rfl⟩, rfl, rfl⟩
def ty11 : TI := ⟨false, 1, 16, .str, [(.string .empty)]⟩
theorem ty11_ok : TIok Try.prog 11 ty11 := ⟨⟨_, info_of Try.type11, rfl, rfl, _, rfl, ⟨_, rfl, rfl, rfl⟩⟩, ⟨_, Try.underlying11, rfl, rfl⟩, rfl, rfl⟩
def ty12 : TI := ⟨false, 1, 8, .int .u64, [(.int .u64 0)]⟩
theorem ty12_ok : TIok Try.prog 12 ty12 := ⟨⟨_, info_of Try.type12, rfl, rfl, _, rfl, ⟨_, rfl, rfl, rfl⟩⟩, ⟨_, Try.underlying12, rfl, rfl⟩, rfl, rfl⟩
def ty13 : TI := ⟨true, 2, 24, .strct [(0, 9), (1, 12)], [(.string .empty), (.int .u64 0)]⟩
theorem ty13_ok : TIok Try.prog 13 ty13 := ⟨⟨_, info_of Try.type13, rfl, rfl, _, rfl, rfl⟩, ⟨_, Try.underlying13, rfl, ⟨_, rfl, rfl⟩⟩, rfl, rfl⟩
def ty14 : TI := ⟨true, 2, 24, .strct [(0, 9), (1, 12)], [(.string .empty), (.int .u64 0)]⟩
theorem ty14_ok : TIok Try.prog 14 ty14 := ⟨⟨_, info_of Try.type14, rfl, rfl, _, rfl, rfl⟩, ⟨_, Try.underlying14, rfl, ⟨_, rfl, rfl⟩⟩, rfl, rfl⟩
def ty15 : TI := ⟨false, 1, 8, .ptr 138, [(.pointer none)]⟩
theorem ty15_ok : TIok Try.prog 15 ty15 := ⟨⟨_, info_of Try.type15, rfl, rfl, _, rfl, ⟨_, rfl, rfl, rfl⟩⟩, ⟨_, Try.underlying15, rfl, rfl⟩, rfl, rfl⟩
def ty16 : TI := ⟨false, 1, 8, .ptr 141, [(.pointer none)]⟩
theorem ty16_ok : TIok Try.prog 16 ty16 := ⟨⟨_, info_of Try.type16, rfl, rfl, _, rfl, ⟨_, rfl, rfl, rfl⟩⟩, ⟨_, Try.underlying16, rfl, rfl⟩, rfl, rfl⟩
def ty17 : TI := ⟨false, 1, 8, .ptr 150, [(.pointer none)]⟩
theorem ty17_ok : TIok Try.prog 17 ty17 := ⟨⟨_, info_of Try.type17, rfl, rfl, _, rfl, ⟨_, rfl, rfl, rfl⟩⟩, ⟨_, Try.underlying17, rfl, rfl⟩, rfl, rfl⟩
def ty18 : TI := ⟨true, 1, 8, .strct [(0, 17)], [(.pointer none)]⟩
theorem ty18_ok : TIok Try.prog 18 ty18 := ⟨⟨_, info_of Try.type18, rfl, rfl, _, rfl, rfl⟩, ⟨_, Try.underlying18, rfl, ⟨_, rfl, rfl⟩⟩, rfl, rfl⟩
def ty19 : TI := ⟨true, 1, 8, .strct [(0, 17)], [(.pointer none)]⟩
theorem ty19_ok : TIok Try.prog 19 ty19 := ⟨⟨_, info_of Try.type19, rfl, rfl, _, rfl, rfl⟩, ⟨_, Try.underlying19, rfl, ⟨_, rfl, rfl⟩⟩, rfl, rfl⟩
def ty20 : TI := ⟨false, 1, 16, .iface, [.nilIface]⟩
theorem ty20_ok : TIok Try.prog 20 ty20 := ⟨⟨_, info_of Try.type20, rfl, rfl, _, rfl, ⟨_, rfl, rfl, rfl⟩⟩, ⟨_, Try.underlying20, rfl, ⟨_, rfl⟩⟩, rfl, rfl⟩
def ty21 : TI := ⟨false, 1, 4, .int .i32, [(.int .i32 0)]⟩
theorem ty21_ok : TIok Try.prog 21 ty21 := ⟨⟨_, info_of Try.type21, rfl, rfl, _, rfl, ⟨_, rfl, rfl, rfl⟩⟩, ⟨_, Try.underlying21, rfl, rfl⟩, rfl, rfl⟩
def ty22 : TI := ⟨true, 2, 16, .strct [(0, 3), (1, 3)], [(.int .i64 0), (.int .i64 0)]⟩
theorem ty22_ok : TIok Try.prog 22 ty22 := ⟨⟨_, info_of Try.type22, rfl, rfl, _, rfl, rfl⟩, ⟨_, Try.underlying22, rfl, ⟨_, rfl, rfl⟩⟩, rfl, rfl⟩
def ty23 : TI := ⟨true, 2, 16, .strct [(0, 3), (1, 3)], [(.int .i64 0), (.int .i64 0)]⟩
theorem ty23_ok : TIok Try.prog 23 ty23 := ⟨⟨_, info_of Try.type23, rfl, rfl, _, rfl, rfl⟩, ⟨_, Try.underlying23, rfl, ⟨_, rfl, rfl⟩⟩, rfl, rfl⟩
def ty24 : TI := ⟨false, 1, 24, .slice 91, [(.slice none 0 0)]⟩
theorem ty24_ok : TIok Try.prog 24 ty24 := ⟨⟨_, info_of Try.type24, rfl, rfl, _, rfl, ⟨_, rfl, rfl, rfl⟩⟩, ⟨_, Try.underlying24, rfl, rfl⟩, rfl, rfl⟩
def ty25 : TI := ⟨false, 1, 24, .slice 3, [(.slice none 0 0)]⟩
theorem ty25_ok : TIok Try.prog 25 ty25 := ⟨⟨_, info_of Try.type25, rfl, rfl, _, rfl, ⟨_, rfl, rfl, rfl⟩⟩, ⟨_, Try.underlying25, rfl, rfl⟩, rfl, rfl⟩
def ty26 : TI := ⟨true, 4, 64, .strct [(0, 3), (1, 3), (2, 25), (3, 25)], [(.int .i64 0), (.int .i64 0), (.slice none 0 0), (.slice none 0 0)]⟩
theorem ty26_ok : TIok Try.prog 26 ty26 := ⟨⟨_, info_of Try.type26, rfl, rfl, _, rfl, rfl⟩, ⟨_, Try.underlying26, rfl, ⟨_, rfl, rfl⟩⟩, rfl, rfl⟩
def ty27 : TI := ⟨true, 4, 64, .strct [(0, 3), (1, 3), (2, 25), (3, 25)], [(.int .i64 0), (.int .i64 0), (.slice none 0 0), (.slice none 0 0)]⟩
theorem ty27_ok : TIok Try.prog 27 ty27 := ⟨⟨_, info_of Try.type27, rfl, rfl, _, rfl, rfl⟩, ⟨_, Try.underlying27, rfl, ⟨_, rfl, rfl⟩⟩, rfl, rfl⟩
def ty28 : TI := ⟨true, 9, 136, .strct [(0, 27), (4, 27), (8, 3)], [(.int .i64 0), (.int .i64 0), (.slice none 0 0), (.slice none 0 0), (.int .i64 0), (.int .i64 0), (.slice none 0 0), (.slice none 0 0), (.int .i64 0)]⟩
theorem ty28_ok : TIok Try.prog 28 ty28 := ⟨⟨_, info_of Try.type28, rfl, rfl, _, rfl, rfl⟩, ⟨_, Try.underlying28, rfl, ⟨_, rfl, rfl⟩⟩, rfl, rfl⟩
def ty29 : TI := ⟨true, 9, 136, .strct [(0, 27), (4, 27), (8, 3)], [(.int .i64 0), (.int .i64 0), (.slice none 0 0), (.slice none 0 0), (.int .i64 0), (.int .i64 0), (.slice none 0 0), (.slice none 0 0), (.int .i64 0)]⟩
theorem ty29_ok : TIok Try.prog 29 ty29 := ⟨⟨_, info_of Try.type29, rfl, rfl, _, rfl, rfl⟩, ⟨_, Try.underlying29, rfl, ⟨_, rfl, rfl⟩⟩, rfl, rfl⟩
def ty30 : TI := ⟨true, 2, 16, .strct [(0, 3), (1, 3)], [(.int .i64 0), (.int .i64 0)]⟩
theorem ty30_ok : TIok Try.prog 30 ty30 := ⟨⟨_, info_of Try.type30, rfl, rfl, _, rfl, rfl⟩, ⟨_, Try.underlying30, rfl, ⟨_, rfl, rfl⟩⟩, rfl, rfl⟩
def ty31 : TI := ⟨false, 1, 24, .slice 30, [(.slice none 0 0)]⟩
theorem ty31_ok : TIok Try.prog 31 ty31 := ⟨⟨_, info_of Try.type31, rfl, rfl, _, rfl, ⟨_, rfl, rfl, rfl⟩⟩, ⟨_, Try.underlying31, rfl, rfl⟩, rfl, rfl⟩
def ty32 : TI := ⟨true, 3, 40, .strct [(0, 30), (2, 31)], [(.int .i64 0), (.int .i64 0), (.slice none 0 0)]⟩
theorem ty32_ok : TIok Try.prog 32 ty32 := ⟨⟨_, info_of Try.type32, rfl, rfl, _, rfl, rfl⟩, ⟨_, Try.underlying32, rfl, ⟨_, rfl, rfl⟩⟩, rfl, rfl⟩
def ty33 : TI := ⟨true, 3, 40, .strct [(0, 30), (2, 31)], [(.int .i64 0), (.int .i64 0), (.slice none 0 0)]⟩
theorem ty33_ok : TIok Try.prog 33 ty33 := ⟨⟨_, info_of Try.type33, rfl, rfl, _, rfl, rfl⟩, ⟨_, Try.underlying33, rfl, ⟨_, rfl, rfl⟩⟩, rfl, rfl⟩
def ty34 : TI := ⟨true, 17, 264, .strct [(0, 24), (1, 24), (2, 29), (11, 25), (12, 33), (15, 3), (16, 3)], [(.slice none 0 0), (.slice none 0 0), (.int .i64 0), (.int .i64 0), (.slice none 0 0), (.slice none 0 0), (.int .i64 0), (.int .i64 0), (.slice none 0 0), (.slice none 0 0), (.int .i64 0), (.slice none 0 0), (.int .i64 0), (.int .i64 0), (.slice none 0 0), (.int .i64 0), (.int .i64 0)]⟩
theorem ty34_ok : TIok Try.prog 34 ty34 := ⟨⟨_, info_of Try.type34, rfl, rfl, _, rfl, rfl⟩, ⟨_, Try.underlying34, rfl, ⟨_, rfl, rfl⟩⟩, rfl, rfl⟩
def ty35 : TI := ⟨true, 17, 264, .strct [(0, 24), (1, 24), (2, 29), (11, 25), (12, 33), (15, 3), (16, 3)], [(.slice none 0 0), (.slice none 0 0), (.int .i64 0), (.int .i64 0), (.slice none 0 0), (.slice none 0 0), (.int .i64 0), (.int .i64 0), (.slice none 0 0), (.slice none 0 0), (.int .i64 0), (.slice none 0 0), (.int .i64 0), (.int .i64 0), (.slice none 0 0), (.int .i64 0), (.int .i64 0)]⟩
theorem ty35_ok : TIok Try.prog 35 ty35 := ⟨⟨_, info_of Try.type35, rfl, rfl, _, rfl, rfl⟩, ⟨_, Try.underlying35, rfl, ⟨_, rfl, rfl⟩⟩, rfl, rfl⟩
def ty42 : TI := ⟨true, 4, 32, .strct [(0, 3), (1, 3), (2, 23)], [(.int .i64 0), (.int .i64 0), (.int .i64 0), (.int .i64 0)]⟩
theorem ty42_ok : TIok Try.prog 42 ty42 := ⟨⟨_, info_of Try.type42, rfl, rfl, _, rfl, rfl⟩, ⟨_, Try.underlying42, rfl, ⟨_, rfl, rfl⟩⟩, rfl, rfl⟩
def ty43 : TI := ⟨true, 4, 32, .strct [(0, 3), (1, 3), (2, 23)], [(.int .i64 0), (.int .i64 0), (.int .i64 0), (.int .i64 0)]⟩
theorem ty43_ok : TIok Try.prog 43 ty43 := ⟨⟨_, info_of Try.type43, rfl, rfl, _, rfl, rfl⟩, ⟨_, Try.underlying43, rfl, ⟨_, rfl, rfl⟩⟩, rfl, rfl⟩
def ty44 : TI := ⟨true, 4, 64, .strct [(0, 3), (1, 3), (2, 25), (3, 25)], [(.int .i64 0), (.int .i64 0), (.slice none 0 0), (.slice none 0 0)]⟩
theorem ty44_ok : TIok Try.prog 44 ty44 := ⟨⟨_, info_of Try.type44, rfl, rfl, _, rfl, rfl⟩, ⟨_, Try.underlying44, rfl, ⟨_, rfl, rfl⟩⟩, rfl, rfl⟩
def ty45 : TI := ⟨true, 9, 136, .strct [(0, 44), (4, 44), (8, 3)], [(.int .i64 0), (.int .i64 0), (.slice none 0 0), (.slice none 0 0), (.int .i64 0), (.int .i64 0), (.slice none 0 0), (.slice none 0 0), (.int .i64 0)]⟩
theorem ty45_ok : TIok Try.prog 45 ty45 := ⟨⟨_, info_of Try.type45, rfl, rfl, _, rfl, rfl⟩, ⟨_, Try.underlying45, rfl, ⟨_, rfl, rfl⟩⟩, rfl, rfl⟩
def ty46 : TI := ⟨true, 9, 136, .strct [(0, 44), (4, 44), (8, 3)], [(.int .i64 0), (.int .i64 0), (.slice none 0 0), (.slice none 0 0), (.int .i64 0), (.int .i64 0), (.slice none 0 0), (.slice none 0 0), (.int .i64 0)]⟩
theorem ty46_ok : TIok Try.prog 46 ty46 := ⟨⟨_, info_of Try.type46, rfl, rfl, _, rfl, rfl⟩, ⟨_, Try.underlying46, rfl, ⟨_, rfl, rfl⟩⟩, rfl, rfl⟩
def ty47 : TI := ⟨false, 1, 24, .slice 23, [(.slice none 0 0)]⟩
theorem ty47_ok : TIok Try.prog 47 ty47 := ⟨⟨_, info_of Try.type47, rfl, rfl, _, rfl, ⟨_, rfl, rfl, rfl⟩⟩, ⟨_, Try.underlying47, rfl, rfl⟩, rfl, rfl⟩
def ty48 : TI := ⟨true, 3, 40, .strct [(0, 23), (2, 47)], [(.int .i64 0), (.int .i64 0), (.slice none 0 0)]⟩
theorem ty48_ok : TIok Try.prog 48 ty48 := ⟨⟨_, info_of Try.type48, rfl, rfl, _, rfl, rfl⟩, ⟨_, Try.underlying48, rfl, ⟨_, rfl, rfl⟩⟩, rfl, rfl⟩
def ty49 : TI := ⟨true, 3, 40, .strct [(0, 23), (2, 47)], [(.int .i64 0), (.int .i64 0), (.slice none 0 0)]⟩
theorem ty49_ok : TIok Try.prog 49 ty49 := ⟨⟨_, info_of Try.type49, rfl, rfl, _, rfl, rfl⟩, ⟨_, Try.underlying49, rfl, ⟨_, rfl, rfl⟩⟩, rfl, rfl⟩
def ty53 : TI := ⟨true, 4, 32, .strct [(0, 3), (1, 3), (2, 30)], [(.int .i64 0), (.int .i64 0), (.int .i64 0), (.int .i64 0)]⟩
theorem ty53_ok : TIok Try.prog 53 ty53 := ⟨⟨_, info_of Try.type53, rfl, rfl, _, rfl, rfl⟩, ⟨_, Try.underlying53, rfl, ⟨_, rfl, rfl⟩⟩, rfl, rfl⟩
def ty54 : TI := ⟨true, 4, 32, .strct [(0, 3), (1, 3), (2, 30)], [(.int .i64 0), (.int .i64 0), (.int .i64 0), (.int .i64 0)]⟩
theorem ty54_ok : TIok Try.prog 54 ty54 := ⟨⟨_, info_of Try.type54, rfl, rfl, _, rfl, rfl⟩, ⟨_, Try.underlying54, rfl, ⟨_, rfl, rfl⟩⟩, rfl, rfl⟩
def ty90 : TI := ⟨true, 4, 48, .strct [(0, 3), (1, 3), (2, 3), (3, 25)], [(.int .i64 0), (.int .i64 0), (.int .i64 0), (.slice none 0 0)]⟩
theorem ty90_ok : TIok Try.prog 90 ty90 := ⟨⟨_, info_of Try.type90, rfl, rfl, _, rfl, rfl⟩, ⟨_, Try.underlying90, rfl, ⟨_, rfl, rfl⟩⟩, rfl, rfl⟩
def ty91 : TI := ⟨true, 4, 48, .strct [(0, 3), (1, 3), (2, 3), (3, 25)], [(.int .i64 0), (.int .i64 0), (.int .i64 0), (.slice none 0 0)]⟩
theorem ty91_ok : TIok Try.prog 91 ty91 := ⟨⟨_, info_of Try.type91, rfl, rfl, _, rfl, rfl⟩, ⟨_, Try.underlying91, rfl, ⟨_, rfl, rfl⟩⟩, rfl, rfl⟩
def ty108 : TI := ⟨false, 1, 16, .iface, [.nilIface]⟩
theorem ty108_ok : TIok Try.prog 108 ty108 := ⟨⟨_, info_of Try.type108, rfl, rfl, _, rfl, ⟨_, rfl, rfl, rfl⟩⟩, ⟨_, Try.underlying108, rfl, ⟨_, rfl⟩⟩, rfl, rfl⟩
def ty109 : TI := ⟨false, 1, 16, .iface, [.nilIface]⟩
theorem ty109_ok : TIok Try.prog 109 ty109 := ⟨⟨_, info_of Try.type109, rfl, rfl, _, rfl, ⟨_, rfl, rfl, rfl⟩⟩, ⟨_, Try.underlying109, rfl, ⟨_, rfl⟩⟩, rfl, rfl⟩
def ty117 : TI := ⟨false, 1, 8, .ptr 120, [(.pointer none)]⟩
theorem ty117_ok : TIok Try.prog 117 ty117 := ⟨⟨_, info_of Try.type117, rfl, rfl, _, rfl, ⟨_, rfl, rfl, rfl⟩⟩, ⟨_, Try.underlying117, rfl, rfl⟩, rfl, rfl⟩
def ty119 : TI := ⟨true, 3, 24, .strct [(0, 30), (2, 117)], [(.int .i64 0), (.int .i64 0), (.pointer none)]⟩
theorem ty119_ok : TIok Try.prog 119 ty119 := ⟨⟨_, info_of Try.type119, rfl, rfl, _, rfl, rfl⟩, ⟨_, Try.underlying119, rfl, ⟨_, rfl, rfl⟩⟩, rfl, rfl⟩
def ty120 : TI := ⟨true, 3, 24, .strct [(0, 30), (2, 117)], [(.int .i64 0), (.int .i64 0), (.pointer none)]⟩
theorem ty120_ok : TIok Try.prog 120 ty120 := ⟨⟨_, info_of Try.type120, rfl, rfl, _, rfl, rfl⟩, ⟨_, Try.underlying120, rfl, ⟨_, rfl, rfl⟩⟩, rfl, rfl⟩
def ty121 : TI := ⟨true, 0, 0, .strct [], []⟩
theorem ty121_ok : TIok Try.prog 121 ty121 := ⟨⟨_, info_of Try.type121, rfl, rfl, _, rfl, rfl⟩, ⟨_, Try.underlying121, rfl, ⟨_, rfl, rfl⟩⟩, rfl, rfl⟩
def ty122 : TI := ⟨true, 0, 0, .strct [], []⟩
theorem ty122_ok : TIok Try.prog 122 ty122 := ⟨⟨_, info_of Try.type122, rfl, rfl, _, rfl, rfl⟩, ⟨_, Try.underlying122, rfl, ⟨_, rfl, rfl⟩⟩, rfl, rfl⟩
def ty123 : TI := ⟨true, 0, 0, .strct [], []⟩
theorem ty123_ok : TIok Try.prog 123 ty123 := ⟨⟨_, info_of Try.type123, rfl, rfl, _, rfl, rfl⟩, ⟨_, Try.underlying123, rfl, ⟨_, rfl, rfl⟩⟩, rfl, rfl⟩
def ty124 : TI := ⟨true, 0, 0, .strct [], []⟩
theorem ty124_ok : TIok Try.prog 124 ty124 := ⟨⟨_, info_of Try.type124, rfl, rfl, _, rfl, rfl⟩, ⟨_, Try.underlying124, rfl, ⟨_, rfl, rfl⟩⟩, rfl, rfl⟩
def ty125 : TI := ⟨false, 1, 8, .map 3 4, [(.map none)]⟩
theorem ty125_ok : TIok Try.prog 125 ty125 := ⟨⟨_, info_of Try.type125, rfl, rfl, _, rfl, ⟨_, rfl, rfl, rfl⟩⟩, ⟨_, Try.underlying125, rfl, rfl⟩, rfl, rfl⟩
def ty126 : TI := ⟨false, 1, 8, .map 3 4, [(.map none)]⟩
theorem ty126_ok : TIok Try.prog 126 ty126 := ⟨⟨_, info_of Try.type126, rfl, rfl, _, rfl, ⟨_, rfl, rfl, rfl⟩⟩, ⟨_, Try.underlying126, rfl, rfl⟩, rfl, rfl⟩
def ty137 : TI := ⟨true, 4, 40, .strct [(0, 17), (1, 17), (2, 17), (3, 9)], [(.pointer none), (.pointer none), (.pointer none), (.string .empty)]⟩
theorem ty137_ok : TIok Try.prog 137 ty137 := ⟨⟨_, info_of Try.type137, rfl, rfl, _, rfl, rfl⟩, ⟨_, Try.underlying137, rfl, ⟨_, rfl, rfl⟩⟩, rfl, rfl⟩
def ty138 : TI := ⟨true, 4, 40, .strct [(0, 17), (1, 17), (2, 17), (3, 9)], [(.pointer none), (.pointer none), (.pointer none), (.string .empty)]⟩
theorem ty138_ok : TIok Try.prog 138 ty138 := ⟨⟨_, info_of Try.type138, rfl, rfl, _, rfl, rfl⟩, ⟨_, Try.underlying138, rfl, ⟨_, rfl, rfl⟩⟩, rfl, rfl⟩
def ty139 : TI := ⟨true, 0, 0, .arr 0 16, []⟩
theorem ty139_ok : TIok Try.prog 139 ty139 := ⟨⟨_, info_of Try.type139, rfl, rfl, _, rfl, rfl⟩, ⟨_, Try.underlying139, rfl, rfl⟩, rfl, rfl⟩
def ty140 : TI := ⟨true, 0, 0, .strct [(0, 139)], []⟩
theorem ty140_ok : TIok Try.prog 140 ty140 := ⟨⟨_, info_of Try.type140, rfl, rfl, _, rfl, rfl⟩, ⟨_, Try.underlying140, rfl, ⟨_, rfl, rfl⟩⟩, rfl, rfl⟩
def ty141 : TI := ⟨true, 0, 0, .strct [(0, 139)], []⟩
theorem ty141_ok : TIok Try.prog 141 ty141 := ⟨⟨_, info_of Try.type141, rfl, rfl, _, rfl, rfl⟩, ⟨_, Try.underlying141, rfl, ⟨_, rfl, rfl⟩⟩, rfl, rfl⟩
def ty142 : TI := ⟨false, 1, 4, .int .u32, [(.int .u32 0)]⟩
theorem ty142_ok : TIok Try.prog 142 ty142 := ⟨⟨_, info_of Try.type142, rfl, rfl, _, rfl, ⟨_, rfl, rfl, rfl⟩⟩, ⟨_, Try.underlying142, rfl, rfl⟩, rfl, rfl⟩
def ty143 : TI := ⟨false, 1, 1, .int .u8, [(.int .u8 0)]⟩
theorem ty143_ok : TIok Try.prog 143 ty143 := ⟨⟨_, info_of Try.type143, rfl, rfl, _, rfl, ⟨_, rfl, rfl, rfl⟩⟩, ⟨_, Try.underlying143, rfl, rfl⟩, rfl, rfl⟩
def ty144 : TI := ⟨false, 1, 1, .int .u8, [(.int .u8 0)]⟩
theorem ty144_ok : TIok Try.prog 144 ty144 := ⟨⟨_, info_of Try.type144, rfl, rfl, _, rfl, ⟨_, rfl, rfl, rfl⟩⟩, ⟨_, Try.underlying144, rfl, rfl⟩, rfl, rfl⟩
def ty146 : TI := ⟨false, 1, 8, .ptr 5, [(.pointer none)]⟩
theorem ty146_ok : TIok Try.prog 146 ty146 := ⟨⟨_, info_of Try.type146, rfl, rfl, _, rfl, ⟨_, rfl, rfl, rfl⟩⟩, ⟨_, Try.underlying146, rfl, rfl⟩, rfl, rfl⟩
def ty147 : TI := ⟨false, 1, 4, .int .i32, [(.int .i32 0)]⟩
theorem ty147_ok : TIok Try.prog 147 ty147 := ⟨⟨_, info_of Try.type147, rfl, rfl, _, rfl, ⟨_, rfl, rfl, rfl⟩⟩, ⟨_, Try.underlying147, rfl, rfl⟩, rfl, rfl⟩
def ty148 : TI := ⟨false, 1, 4, .int .i32, [(.int .i32 0)]⟩
theorem ty148_ok : TIok Try.prog 148 ty148 := ⟨⟨_, info_of Try.type148, rfl, rfl, _, rfl, ⟨_, rfl, rfl, rfl⟩⟩, ⟨_, Try.underlying148, rfl, rfl⟩, rfl, rfl⟩
def ty149 : TI := ⟨true, 11, 48, .strct [(0, 12), (1, 12), (2, 142), (3, 143), (4, 5), (5, 5), (6, 144), (7, 145), (8, 146), (9, 147), (10, 148)], [(.int .u64 0), (.int .u64 0), (.int .u32 0), (.int .u8 0), (.int .u8 0), (.int .u8 0), (.int .u8 0), .nilFunc, (.pointer none), (.int .i32 0), (.int .i32 0)]⟩
theorem ty149_ok : TIok Try.prog 149 ty149 := ⟨⟨_, info_of Try.type149, rfl, rfl, _, rfl, rfl⟩, ⟨_, Try.underlying149, rfl, ⟨_, rfl, rfl⟩⟩, rfl, rfl⟩
def ty150 : TI := ⟨true, 11, 48, .strct [(0, 12), (1, 12), (2, 142), (3, 143), (4, 5), (5, 5), (6, 144), (7, 145), (8, 146), (9, 147), (10, 148)], [(.int .u64 0), (.int .u64 0), (.int .u32 0), (.int .u8 0), (.int .u8 0), (.int .u8 0), (.int .u8 0), .nilFunc, (.pointer none), (.int .i32 0), (.int .i32 0)]⟩
theorem ty150_ok : TIok Try.prog 150 ty150 := ⟨⟨_, info_of Try.type150, rfl, rfl, _, rfl, rfl⟩, ⟨_, Try.underlying150, rfl, ⟨_, rfl, rfl⟩⟩, rfl, rfl⟩
def ty157 : TI := ⟨false, 1, 16, .iface, [.nilIface]⟩
theorem ty157_ok : TIok Try.prog 157 ty157 := ⟨⟨_, info_of Try.type157, rfl, rfl, _, rfl, ⟨_, rfl, rfl, rfl⟩⟩, ⟨_, Try.underlying157, rfl, ⟨_, rfl⟩⟩, rfl, rfl⟩
def ty158 : TI := ⟨false, 1, 16, .iface, [.nilIface]⟩
theorem ty158_ok : TIok Try.prog 158 ty158 := ⟨⟨_, info_of Try.type158, rfl, rfl, _, rfl, ⟨_, rfl, rfl, rfl⟩⟩, ⟨_, Try.underlying158, rfl, ⟨_, rfl⟩⟩, rfl, rfl⟩
def tys : TT := (.node (.node (.node (.node (.node (.node (.node .leaf 2 ty2 .leaf) 3 ty3 .leaf) 4 ty4 (.node .leaf 5 ty5 .leaf)) 6 ty6 (.node (.node (.node .leaf 7 ty7 .leaf) 8 ty8 .leaf) 9 ty9 (.node .leaf 10 ty10 .leaf))) 11 ty11 (.node (.node (.node (.node .leaf 12 ty12 .leaf) 13 ty13 .leaf) 14 ty14 (.node .leaf 15 ty15 .leaf)) 16 ty16 (.node (.node .leaf 17 ty17 .leaf) 18 ty18 (.node .leaf 19 ty19 .leaf)))) 20 ty20 (.node (.node (.node (.node (.node .leaf 21 ty21 .leaf) 22 ty22 .leaf) 23 ty23 (.node .leaf 24 ty24 .leaf)) 25 ty25 (.node (.node .leaf 26 ty26 .leaf) 27 ty27 (.node .leaf 28 ty28 .leaf))) 29 ty29 (.node (.node (.node (.node .leaf 30 ty30 .leaf) 31 ty31 .leaf) 32 ty32 (.node .leaf 33 ty33 .leaf)) 34 ty34 (.node (.node .leaf 35 ty35 .leaf) 42 ty42 (.node .leaf 43 ty43 .leaf))))) 44 ty44 (.node (.node (.node (.node (.node (.node .leaf 45 ty45 .leaf) 46 ty46 .leaf) 47 ty47 (.node .leaf 48 ty48 .leaf)) 49 ty49 (.node (.node .leaf 53 ty53 .leaf) 54 ty54 (.node .leaf 90 ty90 .leaf))) 91 ty91 (.node (.node (.node (.node .leaf 108 ty108 .leaf) 109 ty109 .leaf) 117 ty117 (.node .leaf 119 ty119 .leaf)) 120 ty120 (.node (.node .leaf 121 ty121 .leaf) 122 ty122 (.node .leaf 123 ty123 .leaf)))) 124 ty124 (.node (.node (.node (.node (.node .leaf 125 ty125 .leaf) 126 ty126 .leaf) 137 ty137 (.node .leaf 138 ty138 .leaf)) 139 ty139 (.node (.node .leaf 140 ty140 .leaf) 141 ty141 (.node .leaf 142 ty142 .leaf))) 143 ty143 (.node (.node (.node (.node .leaf 144 ty144 .leaf) 146 ty146 .leaf) 147 ty147 (.node .leaf 148 ty148 .leaf)) 149 ty149 (.node (.node .leaf 150 ty150 .leaf) 157 ty157 (.node .leaf 158 ty158 .leaf))))))
theorem tys_ok : tys.All (TIok Try.prog) := ⟨⟨⟨⟨⟨⟨⟨trivial, ty2_ok, trivial⟩, ty3_ok, trivial⟩, ty4_ok, ⟨trivial, ty5_ok, trivial⟩⟩, ty6_ok, ⟨⟨⟨trivial, ty7_ok, trivial⟩, ty8_ok, trivial⟩, ty9_ok, ⟨trivial, ty10_ok, trivial⟩⟩⟩, ty11_ok, ⟨⟨⟨⟨trivial, ty12_ok, trivial⟩, ty13_ok, trivial⟩, ty14_ok, ⟨trivial, ty15_ok, trivial⟩⟩, ty16_ok, ⟨⟨trivial, ty17_ok, trivial⟩, ty18_ok, ⟨trivial, ty19_ok, trivial⟩⟩⟩⟩, ty20_ok, ⟨⟨⟨⟨⟨trivial, ty21_ok, trivial⟩, ty22_ok, trivial⟩, ty23_ok, ⟨trivial, ty24_ok, trivial⟩⟩, ty25_ok, ⟨⟨trivial, ty26_ok, trivial⟩, ty27_ok, ⟨trivial, ty28_ok, trivial⟩⟩⟩, ty29_ok, ⟨⟨⟨⟨trivial, ty30_ok, trivial⟩, ty31_ok, trivial⟩, ty32_ok, ⟨trivial, ty33_ok, trivial⟩⟩, ty34_ok, ⟨⟨trivial, ty35_ok, trivial⟩, ty42_ok, ⟨trivial, ty43_ok, trivial⟩⟩⟩⟩⟩, ty44_ok, ⟨⟨⟨⟨⟨⟨trivial, ty45_ok, trivial⟩, ty46_ok, trivial⟩, ty47_ok, ⟨trivial, ty48_ok, trivial⟩⟩, ty49_ok, ⟨⟨trivial, ty53_ok, trivial⟩, ty54_ok, ⟨trivial, ty90_ok, trivial⟩⟩⟩, ty91_ok, ⟨⟨⟨⟨trivial, ty108_ok, trivial⟩, ty109_ok, trivial⟩, ty117_ok, ⟨trivial, ty119_ok, trivial⟩⟩, ty120_ok, ⟨⟨trivial, ty121_ok, trivial⟩, ty122_ok, ⟨trivial, ty123_ok, trivial⟩⟩⟩⟩, ty124_ok, ⟨⟨⟨⟨⟨trivial, ty125_ok, trivial⟩, ty126_ok, trivial⟩, ty137_ok, ⟨trivial, ty138_ok, trivial⟩⟩, ty139_ok, ⟨⟨trivial, ty140_ok, trivial⟩, ty141_ok, ⟨trivial, ty142_ok, trivial⟩⟩⟩, ty143_ok, ⟨⟨⟨⟨trivial, ty144_ok, trivial⟩, ty146_ok, trivial⟩, ty147_ok, ⟨trivial, ty148_ok, trivial⟩⟩, ty149_ok, ⟨⟨trivial, ty150_ok, trivial⟩, ty157_ok, ⟨trivial, ty158_ok, trivial⟩⟩⟩⟩⟩⟩
noncomputable def ctx : Ctx := ⟨Try.prog, tys.find, fun _ _ h => TT.find_all tys_ok h⟩
theorem ctx_mixed : ctx.P.follows .mixedOrders = true := by rfl
end Go.Proofs.Ytnffoddeppimkaa.AW
