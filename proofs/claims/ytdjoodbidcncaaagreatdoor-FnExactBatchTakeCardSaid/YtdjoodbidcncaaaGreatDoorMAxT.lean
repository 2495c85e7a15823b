/- The types of this seat's program. -/
import Derived.Test.YtdjoodbidcncaaaGreatDoorMAxL
import Derived.Test.YtdjoodbidcncaaaGreatDoorProg
import Derived.Carry
import Derived.ProofKit
import Derived.Test.YtdjoodbidcncaaaGreatDoorRows
import Derived.Test.YtdjoodbidcncaaaGreatDoorCards
import Derived.Test.YtdjoodbidcncaaaGreatDoorTie
import Derived.OpenShut
import Derived.ChangeOld
import Derived.ChangeSlices
import Derived.LaidLaws
import Derived.LaidHandle
import Derived.Conc.LeavingOf
import Derived.Stop.Joined
import Derived.SevenTiedAt
set_option linter.unusedVariables false
set_option linter.unusedSimpArgs false
namespace Go.Proofs.YtdjoodbidcncaaaGreatDoor.AW
open Go
inductive TT where
  | leaf
  | node (l : TT) (k : Nat) (v : TI) (r : TT)
theorem info_of {P : Program} {t : TypeId} {i : TypeInfo} (h : P.types[t]? = some i) : P.info? t = some i := by
  have : t < P.types.size := (Array.getElem?_eq_some_iff.1 h).1
  simp only [Tables.info?]
  rw [if_pos this]; exact h
def TT.find : TT → Nat → Option TI
  | .leaf, _ => none
  | .node l k v r, t => match Nat.beq t k with
    | true => some v
    | false => match Nat.blt t k with
      | true => l.find t
      | false => r.find t
def TT.All (P : Nat → TI → Prop) : TT → Prop
  | .leaf => True
  | .node l k v r => l.All P ∧ P k v ∧ r.All P
theorem TT.find_all {P : Nat → TI → Prop} : ∀ {s : TT} {t : Nat} {i : TI}, s.All P → s.find t = some i → P t i
  | .leaf, _, _, _, h => by cases h
  | .node l k v r, t, i, ha, h => by
    simp only [TT.find] at h
    split at h
    · rename_i e
      have := Nat.eq_of_beq_eq_true e
      cases h; subst this; exact ha.2.1
    · split at h
      · exact TT.find_all ha.1 h
      · exact TT.find_all ha.2.2 h
def ty2 : TI := ⟨false, 1, 8, .int .i64, [(.int .i64 0)]⟩
theorem ty2_ok : TIok Tryz.prog 2 ty2 := ⟨⟨_, info_of Tryz.type2, rfl, rfl, _, rfl, ⟨_, rfl, rfl, rfl⟩⟩, ⟨_, Tryz.underlying2, rfl, rfl⟩, rfl, rfl⟩
def ty3 : TI := ⟨false, 1, 8, .int .i64, [(.int .i64 0)]⟩
theorem ty3_ok : TIok Tryz.prog 3 ty3 := ⟨⟨_, info_of Tryz.type3, rfl, rfl, _, rfl, ⟨_, rfl, rfl, rfl⟩⟩, ⟨_, Tryz.underlying3, rfl, rfl⟩, rfl, rfl⟩
def ty4 : TI := ⟨false, 1, 1, .bool, [(.bool false)]⟩
theorem ty4_ok : TIok Tryz.prog 4 ty4 := ⟨⟨_, info_of Tryz.type4, rfl, rfl, _, rfl, ⟨_, rfl, rfl, rfl⟩⟩, ⟨_, Tryz.underlying4, rfl, rfl⟩, rfl, rfl⟩
def ty5 : TI := ⟨false, 1, 1, .int .u8, [(.int .u8 0)]⟩
theorem ty5_ok : TIok Tryz.prog 5 ty5 := ⟨⟨_, info_of Tryz.type5, rfl, rfl, _, rfl, ⟨_, rfl, rfl, rfl⟩⟩, ⟨_, Tryz.underlying5, rfl, rfl⟩, rfl, rfl⟩
def ty6 : TI := ⟨false, 1, 1, .int .u8, [(.int .u8 0)]⟩
theorem ty6_ok : TIok Tryz.prog 6 ty6 := ⟨⟨_, info_of Tryz.type6, rfl, rfl, _, rfl, ⟨_, rfl, rfl, rfl⟩⟩, ⟨_, Tryz.underlying6, rfl, rfl⟩, rfl, rfl⟩
def ty7 : TI := ⟨true, 4, 24, .strct [(0, 2), (1, 3), (2, 4), (3, 6)], [(.int .i64 0), (.int .i64 0), (.bool false), (.int .u8 0)]⟩
theorem ty7_ok : TIok Tryz.prog 7 ty7 := ⟨⟨_, info_of Tryz.type7, rfl, rfl, _, rfl, rfl⟩, ⟨_, Tryz.underlying7, rfl, ⟨_, rfl, rfl⟩⟩, rfl, rfl⟩
def ty8 : TI := ⟨true, 4, 24, .strct [(0, 2), (1, 3), (2, 4), (3, 6)], [(.int .i64 0), (.int .i64 0), (.bool false), (.int .u8 0)]⟩
theorem ty8_ok : TIok Tryz.prog 8 ty8 := ⟨⟨_, info_of Tryz.type8, rfl, rfl, _, rfl, rfl⟩, ⟨_, Tryz.underlying8, rfl, ⟨_, rfl, rfl⟩⟩, rfl, rfl⟩
def ty9 : TI := ⟨false, 1, 16, .str, [(.string .empty)]⟩
theorem ty9_ok : TIok Tryz.prog 9 ty9 := ⟨⟨_, info_of Tryz.type9, rfl, rfl, _, rfl, ⟨_, rfl, rfl, rfl⟩⟩, ⟨_, Tryz.underlying9, rfl, rfl⟩, rfl, rfl⟩
def ty10 : TI := ⟨false, 1, 16, .str, [(.string .empty)]⟩
theorem ty10_ok : TIok Tryz.prog 10 ty10 := ⟨⟨_, info_of Tryz.type10, rfl, rfl, _, rfl, ⟨_, rfl, rfl, rfl⟩⟩, ⟨_, Tryz.underlying10, rfl, rfl⟩, rfl, rfl⟩
def ty11 : TI := ⟨false, 1, 16, .str, [(.string .empty)]⟩
theorem ty11_ok : TIok Tryz.prog 11 ty11 := ⟨⟨_, info_of Tryz.type11, rfl, rfl, _, rfl, ⟨_, rfl, rfl, rfl⟩⟩, ⟨_, Tryz.underlying11, rfl, rfl⟩, rfl, rfl⟩
def ty12 : TI := ⟨false, 1, 8, .int .u64, [(.int .u64 0)]⟩
theorem ty12_ok : TIok Tryz.prog 12 ty12 := ⟨⟨_, info_of Tryz.type12, rfl, rfl, _, rfl, ⟨_, rfl, rfl, rfl⟩⟩, ⟨_, Tryz.underlying12, rfl, rfl⟩, rfl, rfl⟩
def ty13 : TI := ⟨true, 2, 24, .strct [(0, 9), (1, 12)], [(.string .empty), (.int .u64 0)]⟩
theorem ty13_ok : TIok Tryz.prog 13 ty13 := ⟨⟨_, info_of Tryz.type13, rfl, rfl, _, rfl, rfl⟩, ⟨_, Tryz.underlying13, rfl, ⟨_, rfl, rfl⟩⟩, rfl, rfl⟩
def ty14 : TI := ⟨true, 2, 24, .strct [(0, 9), (1, 12)], [(.string .empty), (.int .u64 0)]⟩
theorem ty14_ok : TIok Tryz.prog 14 ty14 := ⟨⟨_, info_of Tryz.type14, rfl, rfl, _, rfl, rfl⟩, ⟨_, Tryz.underlying14, rfl, ⟨_, rfl, rfl⟩⟩, rfl, rfl⟩
def ty15 : TI := ⟨false, 1, 8, .ptr 247, [(.pointer none)]⟩
theorem ty15_ok : TIok Tryz.prog 15 ty15 := ⟨⟨_, info_of Tryz.type15, rfl, rfl, _, rfl, ⟨_, rfl, rfl, rfl⟩⟩, ⟨_, Tryz.underlying15, rfl, rfl⟩, rfl, rfl⟩
def ty16 : TI := ⟨false, 1, 8, .ptr 250, [(.pointer none)]⟩
theorem ty16_ok : TIok Tryz.prog 16 ty16 := ⟨⟨_, info_of Tryz.type16, rfl, rfl, _, rfl, ⟨_, rfl, rfl, rfl⟩⟩, ⟨_, Tryz.underlying16, rfl, rfl⟩, rfl, rfl⟩
def ty17 : TI := ⟨false, 1, 8, .ptr 258, [(.pointer none)]⟩
theorem ty17_ok : TIok Tryz.prog 17 ty17 := ⟨⟨_, info_of Tryz.type17, rfl, rfl, _, rfl, ⟨_, rfl, rfl, rfl⟩⟩, ⟨_, Tryz.underlying17, rfl, rfl⟩, rfl, rfl⟩
def ty18 : TI := ⟨true, 1, 8, .strct [(0, 17)], [(.pointer none)]⟩
theorem ty18_ok : TIok Tryz.prog 18 ty18 := ⟨⟨_, info_of Tryz.type18, rfl, rfl, _, rfl, rfl⟩, ⟨_, Tryz.underlying18, rfl, ⟨_, rfl, rfl⟩⟩, rfl, rfl⟩
def ty19 : TI := ⟨true, 1, 8, .strct [(0, 17)], [(.pointer none)]⟩
theorem ty19_ok : TIok Tryz.prog 19 ty19 := ⟨⟨_, info_of Tryz.type19, rfl, rfl, _, rfl, rfl⟩, ⟨_, Tryz.underlying19, rfl, ⟨_, rfl, rfl⟩⟩, rfl, rfl⟩
def ty20 : TI := ⟨false, 1, 16, .iface, [.nilIface]⟩
theorem ty20_ok : TIok Tryz.prog 20 ty20 := ⟨⟨_, info_of Tryz.type20, rfl, rfl, _, rfl, ⟨_, rfl, rfl, rfl⟩⟩, ⟨_, Tryz.underlying20, rfl, ⟨_, rfl⟩⟩, rfl, rfl⟩
def ty21 : TI := ⟨false, 1, 4, .int .i32, [(.int .i32 0)]⟩
theorem ty21_ok : TIok Tryz.prog 21 ty21 := ⟨⟨_, info_of Tryz.type21, rfl, rfl, _, rfl, ⟨_, rfl, rfl, rfl⟩⟩, ⟨_, Tryz.underlying21, rfl, rfl⟩, rfl, rfl⟩
def ty22 : TI := ⟨false, 1, 24, .slice 5, [(.slice none 0 0)]⟩
theorem ty22_ok : TIok Tryz.prog 22 ty22 := ⟨⟨_, info_of Tryz.type22, rfl, rfl, _, rfl, ⟨_, rfl, rfl, rfl⟩⟩, ⟨_, Tryz.underlying22, rfl, rfl⟩, rfl, rfl⟩
def ty23 : TI := ⟨false, 1, 24, .slice 3, [(.slice none 0 0)]⟩
theorem ty23_ok : TIok Tryz.prog 23 ty23 := ⟨⟨_, info_of Tryz.type23, rfl, rfl, _, rfl, ⟨_, rfl, rfl, rfl⟩⟩, ⟨_, Tryz.underlying23, rfl, rfl⟩, rfl, rfl⟩
def ty24 : TI := ⟨true, 4, 64, .strct [(0, 3), (1, 3), (2, 23), (3, 23)], [(.int .i64 0), (.int .i64 0), (.slice none 0 0), (.slice none 0 0)]⟩
theorem ty24_ok : TIok Tryz.prog 24 ty24 := ⟨⟨_, info_of Tryz.type24, rfl, rfl, _, rfl, rfl⟩, ⟨_, Tryz.underlying24, rfl, ⟨_, rfl, rfl⟩⟩, rfl, rfl⟩
def ty25 : TI := ⟨true, 4, 64, .strct [(0, 3), (1, 3), (2, 23), (3, 23)], [(.int .i64 0), (.int .i64 0), (.slice none 0 0), (.slice none 0 0)]⟩
theorem ty25_ok : TIok Tryz.prog 25 ty25 := ⟨⟨_, info_of Tryz.type25, rfl, rfl, _, rfl, rfl⟩, ⟨_, Tryz.underlying25, rfl, ⟨_, rfl, rfl⟩⟩, rfl, rfl⟩
def ty26 : TI := ⟨true, 4, 48, .strct [(0, 3), (1, 3), (2, 3), (3, 23)], [(.int .i64 0), (.int .i64 0), (.int .i64 0), (.slice none 0 0)]⟩
theorem ty26_ok : TIok Tryz.prog 26 ty26 := ⟨⟨_, info_of Tryz.type26, rfl, rfl, _, rfl, rfl⟩, ⟨_, Tryz.underlying26, rfl, ⟨_, rfl, rfl⟩⟩, rfl, rfl⟩
def ty27 : TI := ⟨true, 4, 48, .strct [(0, 3), (1, 3), (2, 3), (3, 23)], [(.int .i64 0), (.int .i64 0), (.int .i64 0), (.slice none 0 0)]⟩
theorem ty27_ok : TIok Tryz.prog 27 ty27 := ⟨⟨_, info_of Tryz.type27, rfl, rfl, _, rfl, rfl⟩, ⟨_, Tryz.underlying27, rfl, ⟨_, rfl, rfl⟩⟩, rfl, rfl⟩
def ty47 : TI := ⟨true, 4, 64, .strct [(0, 3), (1, 3), (2, 23), (3, 23)], [(.int .i64 0), (.int .i64 0), (.slice none 0 0), (.slice none 0 0)]⟩
theorem ty47_ok : TIok Tryz.prog 47 ty47 := ⟨⟨_, info_of Tryz.type47, rfl, rfl, _, rfl, rfl⟩, ⟨_, Tryz.underlying47, rfl, ⟨_, rfl, rfl⟩⟩, rfl, rfl⟩
def ty48 : TI := ⟨true, 9, 136, .strct [(0, 47), (4, 47), (8, 3)], [(.int .i64 0), (.int .i64 0), (.slice none 0 0), (.slice none 0 0), (.int .i64 0), (.int .i64 0), (.slice none 0 0), (.slice none 0 0), (.int .i64 0)]⟩
theorem ty48_ok : TIok Tryz.prog 48 ty48 := ⟨⟨_, info_of Tryz.type48, rfl, rfl, _, rfl, rfl⟩, ⟨_, Tryz.underlying48, rfl, ⟨_, rfl, rfl⟩⟩, rfl, rfl⟩
def ty49 : TI := ⟨true, 9, 136, .strct [(0, 47), (4, 47), (8, 3)], [(.int .i64 0), (.int .i64 0), (.slice none 0 0), (.slice none 0 0), (.int .i64 0), (.int .i64 0), (.slice none 0 0), (.slice none 0 0), (.int .i64 0)]⟩
theorem ty49_ok : TIok Tryz.prog 49 ty49 := ⟨⟨_, info_of Tryz.type49, rfl, rfl, _, rfl, rfl⟩, ⟨_, Tryz.underlying49, rfl, ⟨_, rfl, rfl⟩⟩, rfl, rfl⟩
def ty50 : TI := ⟨true, 4, 48, .strct [(0, 3), (1, 3), (2, 3), (3, 23)], [(.int .i64 0), (.int .i64 0), (.int .i64 0), (.slice none 0 0)]⟩
theorem ty50_ok : TIok Tryz.prog 50 ty50 := ⟨⟨_, info_of Tryz.type50, rfl, rfl, _, rfl, rfl⟩, ⟨_, Tryz.underlying50, rfl, ⟨_, rfl, rfl⟩⟩, rfl, rfl⟩
def ty53 : TI := ⟨true, 9, 136, .strct [(0, 25), (4, 25), (8, 3)], [(.int .i64 0), (.int .i64 0), (.slice none 0 0), (.slice none 0 0), (.int .i64 0), (.int .i64 0), (.slice none 0 0), (.slice none 0 0), (.int .i64 0)]⟩
theorem ty53_ok : TIok Tryz.prog 53 ty53 := ⟨⟨_, info_of Tryz.type53, rfl, rfl, _, rfl, rfl⟩, ⟨_, Tryz.underlying53, rfl, ⟨_, rfl, rfl⟩⟩, rfl, rfl⟩
def ty54 : TI := ⟨true, 9, 136, .strct [(0, 25), (4, 25), (8, 3)], [(.int .i64 0), (.int .i64 0), (.slice none 0 0), (.slice none 0 0), (.int .i64 0), (.int .i64 0), (.slice none 0 0), (.slice none 0 0), (.int .i64 0)]⟩
theorem ty54_ok : TIok Tryz.prog 54 ty54 := ⟨⟨_, info_of Tryz.type54, rfl, rfl, _, rfl, rfl⟩, ⟨_, Tryz.underlying54, rfl, ⟨_, rfl, rfl⟩⟩, rfl, rfl⟩
def ty75 : TI := ⟨false, 1, 8, .ptr 129, [(.pointer none)]⟩
theorem ty75_ok : TIok Tryz.prog 75 ty75 := ⟨⟨_, info_of Tryz.type75, rfl, rfl, _, rfl, ⟨_, rfl, rfl, rfl⟩⟩, ⟨_, Tryz.underlying75, rfl, rfl⟩, rfl, rfl⟩
def ty86 : TI := ⟨false, 1, 8, .map 3 4, [(.map none)]⟩
theorem ty86_ok : TIok Tryz.prog 86 ty86 := ⟨⟨_, info_of Tryz.type86, rfl, rfl, _, rfl, ⟨_, rfl, rfl, rfl⟩⟩, ⟨_, Tryz.underlying86, rfl, rfl⟩, rfl, rfl⟩
def ty87 : TI := ⟨false, 1, 8, .map 3 4, [(.map none)]⟩
theorem ty87_ok : TIok Tryz.prog 87 ty87 := ⟨⟨_, info_of Tryz.type87, rfl, rfl, _, rfl, ⟨_, rfl, rfl, rfl⟩⟩, ⟨_, Tryz.underlying87, rfl, rfl⟩, rfl, rfl⟩
def ty93 : TI := ⟨false, 1, 8, .int .i64, [(.int .i64 0)]⟩
theorem ty93_ok : TIok Tryz.prog 93 ty93 := ⟨⟨_, info_of Tryz.type93, rfl, rfl, _, rfl, ⟨_, rfl, rfl, rfl⟩⟩, ⟨_, Tryz.underlying93, rfl, rfl⟩, rfl, rfl⟩
def ty94 : TI := ⟨false, 1, 16, .iface, [.nilIface]⟩
theorem ty94_ok : TIok Tryz.prog 94 ty94 := ⟨⟨_, info_of Tryz.type94, rfl, rfl, _, rfl, ⟨_, rfl, rfl, rfl⟩⟩, ⟨_, Tryz.underlying94, rfl, ⟨_, rfl⟩⟩, rfl, rfl⟩
def ty95 : TI := ⟨false, 1, 16, .iface, [.nilIface]⟩
theorem ty95_ok : TIok Tryz.prog 95 ty95 := ⟨⟨_, info_of Tryz.type95, rfl, rfl, _, rfl, ⟨_, rfl, rfl, rfl⟩⟩, ⟨_, Tryz.underlying95, rfl, ⟨_, rfl⟩⟩, rfl, rfl⟩
def ty99 : TI := ⟨true, 3, 40, .strct [(0, 3), (1, 3), (2, 23)], [(.int .i64 0), (.int .i64 0), (.slice none 0 0)]⟩
theorem ty99_ok : TIok Tryz.prog 99 ty99 := ⟨⟨_, info_of Tryz.type99, rfl, rfl, _, rfl, rfl⟩, ⟨_, Tryz.underlying99, rfl, ⟨_, rfl, rfl⟩⟩, rfl, rfl⟩
def ty100 : TI := ⟨true, 3, 40, .strct [(0, 3), (1, 3), (2, 23)], [(.int .i64 0), (.int .i64 0), (.slice none 0 0)]⟩
theorem ty100_ok : TIok Tryz.prog 100 ty100 := ⟨⟨_, info_of Tryz.type100, rfl, rfl, _, rfl, rfl⟩, ⟨_, Tryz.underlying100, rfl, ⟨_, rfl, rfl⟩⟩, rfl, rfl⟩
def ty110 : TI := ⟨false, 1, 8, .ptr 120, [(.pointer none)]⟩
theorem ty110_ok : TIok Tryz.prog 110 ty110 := ⟨⟨_, info_of Tryz.type110, rfl, rfl, _, rfl, ⟨_, rfl, rfl, rfl⟩⟩, ⟨_, Tryz.underlying110, rfl, rfl⟩, rfl, rfl⟩
def ty112 : TI := ⟨true, 0, 0, .strct [], []⟩
theorem ty112_ok : TIok Tryz.prog 112 ty112 := ⟨⟨_, info_of Tryz.type112, rfl, rfl, _, rfl, rfl⟩, ⟨_, Tryz.underlying112, rfl, ⟨_, rfl, rfl⟩⟩, rfl, rfl⟩
def ty113 : TI := ⟨true, 0, 0, .strct [], []⟩
theorem ty113_ok : TIok Tryz.prog 113 ty113 := ⟨⟨_, info_of Tryz.type113, rfl, rfl, _, rfl, rfl⟩, ⟨_, Tryz.underlying113, rfl, ⟨_, rfl, rfl⟩⟩, rfl, rfl⟩
def ty114 : TI := ⟨false, 1, 4, .int .u32, [(.int .u32 0)]⟩
theorem ty114_ok : TIok Tryz.prog 114 ty114 := ⟨⟨_, info_of Tryz.type114, rfl, rfl, _, rfl, ⟨_, rfl, rfl, rfl⟩⟩, ⟨_, Tryz.underlying114, rfl, rfl⟩, rfl, rfl⟩
def ty115 : TI := ⟨true, 2, 8, .strct [(0, 21), (1, 114)], [(.int .i32 0), (.int .u32 0)]⟩
theorem ty115_ok : TIok Tryz.prog 115 ty115 := ⟨⟨_, info_of Tryz.type115, rfl, rfl, _, rfl, rfl⟩, ⟨_, Tryz.underlying115, rfl, ⟨_, rfl, rfl⟩⟩, rfl, rfl⟩
def ty116 : TI := ⟨true, 2, 8, .strct [(0, 21), (1, 114)], [(.int .i32 0), (.int .u32 0)]⟩
theorem ty116_ok : TIok Tryz.prog 116 ty116 := ⟨⟨_, info_of Tryz.type116, rfl, rfl, _, rfl, rfl⟩, ⟨_, Tryz.underlying116, rfl, ⟨_, rfl, rfl⟩⟩, rfl, rfl⟩
def ty117 : TI := ⟨true, 2, 8, .strct [(0, 113), (0, 116)], [(.int .i32 0), (.int .u32 0)]⟩
theorem ty117_ok : TIok Tryz.prog 117 ty117 := ⟨⟨_, info_of Tryz.type117, rfl, rfl, _, rfl, rfl⟩, ⟨_, Tryz.underlying117, rfl, ⟨_, rfl, rfl⟩⟩, rfl, rfl⟩
def ty118 : TI := ⟨true, 2, 8, .strct [(0, 113), (0, 116)], [(.int .i32 0), (.int .u32 0)]⟩
theorem ty118_ok : TIok Tryz.prog 118 ty118 := ⟨⟨_, info_of Tryz.type118, rfl, rfl, _, rfl, rfl⟩, ⟨_, Tryz.underlying118, rfl, ⟨_, rfl, rfl⟩⟩, rfl, rfl⟩
def ty119 : TI := ⟨true, 11, 144, .strct [(0, 118), (2, 54)], [(.int .i32 0), (.int .u32 0), (.int .i64 0), (.int .i64 0), (.slice none 0 0), (.slice none 0 0), (.int .i64 0), (.int .i64 0), (.slice none 0 0), (.slice none 0 0), (.int .i64 0)]⟩
theorem ty119_ok : TIok Tryz.prog 119 ty119 := ⟨⟨_, info_of Tryz.type119, rfl, rfl, _, rfl, rfl⟩, ⟨_, Tryz.underlying119, rfl, ⟨_, rfl, rfl⟩⟩, rfl, rfl⟩
def ty120 : TI := ⟨true, 11, 144, .strct [(0, 118), (2, 54)], [(.int .i32 0), (.int .u32 0), (.int .i64 0), (.int .i64 0), (.slice none 0 0), (.slice none 0 0), (.int .i64 0), (.int .i64 0), (.slice none 0 0), (.slice none 0 0), (.int .i64 0)]⟩
theorem ty120_ok : TIok Tryz.prog 120 ty120 := ⟨⟨_, info_of Tryz.type120, rfl, rfl, _, rfl, rfl⟩, ⟨_, Tryz.underlying120, rfl, ⟨_, rfl, rfl⟩⟩, rfl, rfl⟩
def ty128 : TI := ⟨true, 2, 32, .strct [(0, 22), (1, 3)], [(.slice none 0 0), (.int .i64 0)]⟩
theorem ty128_ok : TIok Tryz.prog 128 ty128 := ⟨⟨_, info_of Tryz.type128, rfl, rfl, _, rfl, rfl⟩, ⟨_, Tryz.underlying128, rfl, ⟨_, rfl, rfl⟩⟩, rfl, rfl⟩
def ty129 : TI := ⟨true, 2, 32, .strct [(0, 22), (1, 3)], [(.slice none 0 0), (.int .i64 0)]⟩
theorem ty129_ok : TIok Tryz.prog 129 ty129 := ⟨⟨_, info_of Tryz.type129, rfl, rfl, _, rfl, rfl⟩, ⟨_, Tryz.underlying129, rfl, ⟨_, rfl, rfl⟩⟩, rfl, rfl⟩
def ty136 : TI := ⟨false, 1, 8, .ptr 183, [(.pointer none)]⟩
theorem ty136_ok : TIok Tryz.prog 136 ty136 := ⟨⟨_, info_of Tryz.type136, rfl, rfl, _, rfl, ⟨_, rfl, rfl, rfl⟩⟩, ⟨_, Tryz.underlying136, rfl, rfl⟩, rfl, rfl⟩
def ty138 : TI := ⟨false, 1, 16, .iface, [.nilIface]⟩
theorem ty138_ok : TIok Tryz.prog 138 ty138 := ⟨⟨_, info_of Tryz.type138, rfl, rfl, _, rfl, ⟨_, rfl, rfl, rfl⟩⟩, ⟨_, Tryz.underlying138, rfl, ⟨_, rfl⟩⟩, rfl, rfl⟩
def ty139 : TI := ⟨false, 1, 16, .iface, [.nilIface]⟩
theorem ty139_ok : TIok Tryz.prog 139 ty139 := ⟨⟨_, info_of Tryz.type139, rfl, rfl, _, rfl, ⟨_, rfl, rfl, rfl⟩⟩, ⟨_, Tryz.underlying139, rfl, ⟨_, rfl⟩⟩, rfl, rfl⟩
def ty141 : TI := ⟨false, 1, 8, .ptr 136, [(.pointer none)]⟩
theorem ty141_ok : TIok Tryz.prog 141 ty141 := ⟨⟨_, info_of Tryz.type141, rfl, rfl, _, rfl, ⟨_, rfl, rfl, rfl⟩⟩, ⟨_, Tryz.underlying141, rfl, rfl⟩, rfl, rfl⟩
def ty142 : TI := ⟨true, 0, 0, .strct [], []⟩
theorem ty142_ok : TIok Tryz.prog 142 ty142 := ⟨⟨_, info_of Tryz.type142, rfl, rfl, _, rfl, rfl⟩, ⟨_, Tryz.underlying142, rfl, ⟨_, rfl, rfl⟩⟩, rfl, rfl⟩
def ty143 : TI := ⟨true, 0, 0, .strct [], []⟩
theorem ty143_ok : TIok Tryz.prog 143 ty143 := ⟨⟨_, info_of Tryz.type143, rfl, rfl, _, rfl, rfl⟩, ⟨_, Tryz.underlying143, rfl, ⟨_, rfl, rfl⟩⟩, rfl, rfl⟩
def ty144 : TI := ⟨false, 1, 8, .int .u64, [(.int .u64 0)]⟩
theorem ty144_ok : TIok Tryz.prog 144 ty144 := ⟨⟨_, info_of Tryz.type144, rfl, rfl, _, rfl, ⟨_, rfl, rfl, rfl⟩⟩, ⟨_, Tryz.underlying144, rfl, rfl⟩, rfl, rfl⟩
def ty145 : TI := ⟨true, 1, 8, .strct [(0, 142), (0, 143), (0, 144)], [(.int .u64 0)]⟩
theorem ty145_ok : TIok Tryz.prog 145 ty145 := ⟨⟨_, info_of Tryz.type145, rfl, rfl, _, rfl, rfl⟩, ⟨_, Tryz.underlying145, rfl, ⟨_, rfl, rfl⟩⟩, rfl, rfl⟩
def ty146 : TI := ⟨true, 1, 8, .strct [(0, 142), (0, 143), (0, 144)], [(.int .u64 0)]⟩
theorem ty146_ok : TIok Tryz.prog 146 ty146 := ⟨⟨_, info_of Tryz.type146, rfl, rfl, _, rfl, rfl⟩, ⟨_, Tryz.underlying146, rfl, ⟨_, rfl, rfl⟩⟩, rfl, rfl⟩
def ty147 : TI := ⟨true, 2, 16, .strct [(0, 113), (0, 146), (1, 114)], [(.int .u64 0), (.int .u32 0)]⟩
theorem ty147_ok : TIok Tryz.prog 147 ty147 := ⟨⟨_, info_of Tryz.type147, rfl, rfl, _, rfl, rfl⟩, ⟨_, Tryz.underlying147, rfl, ⟨_, rfl, rfl⟩⟩, rfl, rfl⟩
def ty148 : TI := ⟨true, 2, 16, .strct [(0, 113), (0, 146), (1, 114)], [(.int .u64 0), (.int .u32 0)]⟩
theorem ty148_ok : TIok Tryz.prog 148 ty148 := ⟨⟨_, info_of Tryz.type148, rfl, rfl, _, rfl, rfl⟩, ⟨_, Tryz.underlying148, rfl, ⟨_, rfl, rfl⟩⟩, rfl, rfl⟩
def ty151 : TI := ⟨true, 0, 0, .strct [], []⟩
theorem ty151_ok : TIok Tryz.prog 151 ty151 := ⟨⟨_, info_of Tryz.type151, rfl, rfl, _, rfl, rfl⟩, ⟨_, Tryz.underlying151, rfl, ⟨_, rfl, rfl⟩⟩, rfl, rfl⟩
def ty152 : TI := ⟨true, 0, 0, .strct [], []⟩
theorem ty152_ok : TIok Tryz.prog 152 ty152 := ⟨⟨_, info_of Tryz.type152, rfl, rfl, _, rfl, rfl⟩, ⟨_, Tryz.underlying152, rfl, ⟨_, rfl, rfl⟩⟩, rfl, rfl⟩
def ty153 : TI := ⟨true, 0, 0, .strct [], []⟩
theorem ty153_ok : TIok Tryz.prog 153 ty153 := ⟨⟨_, info_of Tryz.type153, rfl, rfl, _, rfl, rfl⟩, ⟨_, Tryz.underlying153, rfl, ⟨_, rfl, rfl⟩⟩, rfl, rfl⟩
def ty168 : TI := ⟨true, 4, 32, .arr 4 93, [(.int .i64 0), (.int .i64 0), (.int .i64 0), (.int .i64 0)]⟩
theorem ty168_ok : TIok Tryz.prog 168 ty168 := ⟨⟨_, info_of Tryz.type168, rfl, rfl, _, rfl, rfl⟩, ⟨_, Tryz.underlying168, rfl, rfl⟩, rfl, rfl⟩
def ty170 : TI := ⟨false, 1, 8, .int .u64, [(.int .u64 0)]⟩
theorem ty170_ok : TIok Tryz.prog 170 ty170 := ⟨⟨_, info_of Tryz.type170, rfl, rfl, _, rfl, ⟨_, rfl, rfl, rfl⟩⟩, ⟨_, Tryz.underlying170, rfl, rfl⟩, rfl, rfl⟩
def ty171 : TI := ⟨true, 3, 24, .strct [(0, 17), (1, 169), (2, 170)], [(.pointer none), (.pointer none), (.int .u64 0)]⟩
theorem ty171_ok : TIok Tryz.prog 171 ty171 := ⟨⟨_, info_of Tryz.type171, rfl, rfl, _, rfl, rfl⟩, ⟨_, Tryz.underlying171, rfl, ⟨_, rfl, rfl⟩⟩, rfl, rfl⟩
def ty172 : TI := ⟨true, 3, 24, .strct [(0, 17), (1, 169), (2, 170)], [(.pointer none), (.pointer none), (.int .u64 0)]⟩
theorem ty172_ok : TIok Tryz.prog 172 ty172 := ⟨⟨_, info_of Tryz.type172, rfl, rfl, _, rfl, rfl⟩, ⟨_, Tryz.underlying172, rfl, ⟨_, rfl, rfl⟩⟩, rfl, rfl⟩
def ty174 : TI := ⟨false, 1, 16, .iface, [.nilIface]⟩
theorem ty174_ok : TIok Tryz.prog 174 ty174 := ⟨⟨_, info_of Tryz.type174, rfl, rfl, _, rfl, ⟨_, rfl, rfl, rfl⟩⟩, ⟨_, Tryz.underlying174, rfl, ⟨_, rfl⟩⟩, rfl, rfl⟩
def ty175 : TI := ⟨false, 1, 16, .iface, [.nilIface]⟩
theorem ty175_ok : TIok Tryz.prog 175 ty175 := ⟨⟨_, info_of Tryz.type175, rfl, rfl, _, rfl, ⟨_, rfl, rfl, rfl⟩⟩, ⟨_, Tryz.underlying175, rfl, ⟨_, rfl⟩⟩, rfl, rfl⟩
def ty177 : TI := ⟨false, 1, 1, .int .u8, [(.int .u8 0)]⟩
theorem ty177_ok : TIok Tryz.prog 177 ty177 := ⟨⟨_, info_of Tryz.type177, rfl, rfl, _, rfl, ⟨_, rfl, rfl, rfl⟩⟩, ⟨_, Tryz.underlying177, rfl, rfl⟩, rfl, rfl⟩
def ty182 : TI := ⟨true, 1, 8, .strct [(0, 3)], [(.int .i64 0)]⟩
theorem ty182_ok : TIok Tryz.prog 182 ty182 := ⟨⟨_, info_of Tryz.type182, rfl, rfl, _, rfl, rfl⟩, ⟨_, Tryz.underlying182, rfl, ⟨_, rfl, rfl⟩⟩, rfl, rfl⟩
def ty183 : TI := ⟨true, 1, 8, .strct [(0, 3)], [(.int .i64 0)]⟩
theorem ty183_ok : TIok Tryz.prog 183 ty183 := ⟨⟨_, info_of Tryz.type183, rfl, rfl, _, rfl, rfl⟩, ⟨_, Tryz.underlying183, rfl, ⟨_, rfl, rfl⟩⟩, rfl, rfl⟩
def ty184 : TI := ⟨false, 1, 8, .ptr 148, [(.pointer none)]⟩
theorem ty184_ok : TIok Tryz.prog 184 ty184 := ⟨⟨_, info_of Tryz.type184, rfl, rfl, _, rfl, ⟨_, rfl, rfl, rfl⟩⟩, ⟨_, Tryz.underlying184, rfl, rfl⟩, rfl, rfl⟩
def ty186 : TI := ⟨false, 1, 8, .int .i64, [(.int .i64 0)]⟩
theorem ty186_ok : TIok Tryz.prog 186 ty186 := ⟨⟨_, info_of Tryz.type186, rfl, rfl, _, rfl, ⟨_, rfl, rfl, rfl⟩⟩, ⟨_, Tryz.underlying186, rfl, rfl⟩, rfl, rfl⟩
def ty190 : TI := ⟨false, 1, 8, .int .u64, [(.int .u64 0)]⟩
theorem ty190_ok : TIok Tryz.prog 190 ty190 := ⟨⟨_, info_of Tryz.type190, rfl, rfl, _, rfl, ⟨_, rfl, rfl, rfl⟩⟩, ⟨_, Tryz.underlying190, rfl, rfl⟩, rfl, rfl⟩
def ty191 : TI := ⟨false, 1, 8, .ptr 114, [(.pointer none)]⟩
theorem ty191_ok : TIok Tryz.prog 191 ty191 := ⟨⟨_, info_of Tryz.type191, rfl, rfl, _, rfl, ⟨_, rfl, rfl, rfl⟩⟩, ⟨_, Tryz.underlying191, rfl, rfl⟩, rfl, rfl⟩
def ty200 : TI := ⟨true, 9, 72, .arr 9 93, [(.int .i64 0), (.int .i64 0), (.int .i64 0), (.int .i64 0), (.int .i64 0), (.int .i64 0), (.int .i64 0), (.int .i64 0), (.int .i64 0)]⟩
theorem ty200_ok : TIok Tryz.prog 200 ty200 := ⟨⟨_, info_of Tryz.type200, rfl, rfl, _, rfl, rfl⟩, ⟨_, Tryz.underlying200, rfl, rfl⟩, rfl, rfl⟩
def ty201 : TI := ⟨true, 9, 72, .arr 9 93, [(.int .i64 0), (.int .i64 0), (.int .i64 0), (.int .i64 0), (.int .i64 0), (.int .i64 0), (.int .i64 0), (.int .i64 0), (.int .i64 0)]⟩
theorem ty201_ok : TIok Tryz.prog 201 ty201 := ⟨⟨_, info_of Tryz.type201, rfl, rfl, _, rfl, rfl⟩, ⟨_, Tryz.underlying201, rfl, rfl⟩, rfl, rfl⟩
def ty205 : TI := ⟨false, 1, 24, .slice 23, [(.slice none 0 0)]⟩
theorem ty205_ok : TIok Tryz.prog 205 ty205 := ⟨⟨_, info_of Tryz.type205, rfl, rfl, _, rfl, ⟨_, rfl, rfl, rfl⟩⟩, ⟨_, Tryz.underlying205, rfl, rfl⟩, rfl, rfl⟩
def ty207 : TI := ⟨false, 1, 8, .ptr 118, [(.pointer none)]⟩
theorem ty207_ok : TIok Tryz.prog 207 ty207 := ⟨⟨_, info_of Tryz.type207, rfl, rfl, _, rfl, ⟨_, rfl, rfl, rfl⟩⟩, ⟨_, Tryz.underlying207, rfl, rfl⟩, rfl, rfl⟩
def ty213 : TI := ⟨true, 1, 8, .strct [(0, 17)], [(.pointer none)]⟩
theorem ty213_ok : TIok Tryz.prog 213 ty213 := ⟨⟨_, info_of Tryz.type213, rfl, rfl, _, rfl, rfl⟩, ⟨_, Tryz.underlying213, rfl, ⟨_, rfl, rfl⟩⟩, rfl, rfl⟩
def ty214 : TI := ⟨true, 1, 8, .strct [(0, 17)], [(.pointer none)]⟩
theorem ty214_ok : TIok Tryz.prog 214 ty214 := ⟨⟨_, info_of Tryz.type214, rfl, rfl, _, rfl, rfl⟩, ⟨_, Tryz.underlying214, rfl, ⟨_, rfl, rfl⟩⟩, rfl, rfl⟩
def ty215 : TI := ⟨false, 1, 8, .ptr 262, [(.pointer none)]⟩
theorem ty215_ok : TIok Tryz.prog 215 ty215 := ⟨⟨_, info_of Tryz.type215, rfl, rfl, _, rfl, ⟨_, rfl, rfl, rfl⟩⟩, ⟨_, Tryz.underlying215, rfl, rfl⟩, rfl, rfl⟩
def ty218 : TI := ⟨false, 1, 16, .iface, [.nilIface]⟩
theorem ty218_ok : TIok Tryz.prog 218 ty218 := ⟨⟨_, info_of Tryz.type218, rfl, rfl, _, rfl, ⟨_, rfl, rfl, rfl⟩⟩, ⟨_, Tryz.underlying218, rfl, ⟨_, rfl⟩⟩, rfl, rfl⟩
def ty221 : TI := ⟨false, 1, 16, .iface, [.nilIface]⟩
theorem ty221_ok : TIok Tryz.prog 221 ty221 := ⟨⟨_, info_of Tryz.type221, rfl, rfl, _, rfl, ⟨_, rfl, rfl, rfl⟩⟩, ⟨_, Tryz.underlying221, rfl, ⟨_, rfl⟩⟩, rfl, rfl⟩
def ty222 : TI := ⟨false, 1, 16, .iface, [.nilIface]⟩
theorem ty222_ok : TIok Tryz.prog 222 ty222 := ⟨⟨_, info_of Tryz.type222, rfl, rfl, _, rfl, ⟨_, rfl, rfl, rfl⟩⟩, ⟨_, Tryz.underlying222, rfl, ⟨_, rfl⟩⟩, rfl, rfl⟩
def ty223 : TI := ⟨false, 1, 24, .slice 139, [(.slice none 0 0)]⟩
theorem ty223_ok : TIok Tryz.prog 223 ty223 := ⟨⟨_, info_of Tryz.type223, rfl, rfl, _, rfl, ⟨_, rfl, rfl, rfl⟩⟩, ⟨_, Tryz.underlying223, rfl, rfl⟩, rfl, rfl⟩
def ty225 : TI := ⟨false, 1, 8, .ptr 146, [(.pointer none)]⟩
theorem ty225_ok : TIok Tryz.prog 225 ty225 := ⟨⟨_, info_of Tryz.type225, rfl, rfl, _, rfl, ⟨_, rfl, rfl, rfl⟩⟩, ⟨_, Tryz.underlying225, rfl, rfl⟩, rfl, rfl⟩
def ty227 : TI := ⟨false, 1, 8, .ptr 144, [(.pointer none)]⟩
theorem ty227_ok : TIok Tryz.prog 227 ty227 := ⟨⟨_, info_of Tryz.type227, rfl, rfl, _, rfl, ⟨_, rfl, rfl, rfl⟩⟩, ⟨_, Tryz.underlying227, rfl, rfl⟩, rfl, rfl⟩
def ty231 : TI := ⟨false, 1, 16, .iface, [.nilIface]⟩
theorem ty231_ok : TIok Tryz.prog 231 ty231 := ⟨⟨_, info_of Tryz.type231, rfl, rfl, _, rfl, ⟨_, rfl, rfl, rfl⟩⟩, ⟨_, Tryz.underlying231, rfl, ⟨_, rfl⟩⟩, rfl, rfl⟩
def ty235 : TI := ⟨false, 1, 8, .ptr 116, [(.pointer none)]⟩
theorem ty235_ok : TIok Tryz.prog 235 ty235 := ⟨⟨_, info_of Tryz.type235, rfl, rfl, _, rfl, ⟨_, rfl, rfl, rfl⟩⟩, ⟨_, Tryz.underlying235, rfl, rfl⟩, rfl, rfl⟩
def ty237 : TI := ⟨false, 1, 8, .ptr 21, [(.pointer none)]⟩
theorem ty237_ok : TIok Tryz.prog 237 ty237 := ⟨⟨_, info_of Tryz.type237, rfl, rfl, _, rfl, ⟨_, rfl, rfl, rfl⟩⟩, ⟨_, Tryz.underlying237, rfl, rfl⟩, rfl, rfl⟩
def ty244 : TI := ⟨false, 1, 8, .ptr 264, [(.pointer none)]⟩
theorem ty244_ok : TIok Tryz.prog 244 ty244 := ⟨⟨_, info_of Tryz.type244, rfl, rfl, _, rfl, ⟨_, rfl, rfl, rfl⟩⟩, ⟨_, Tryz.underlying244, rfl, rfl⟩, rfl, rfl⟩
def ty246 : TI := ⟨true, 4, 40, .strct [(0, 17), (1, 17), (2, 17), (3, 9)], [(.pointer none), (.pointer none), (.pointer none), (.string .empty)]⟩
theorem ty246_ok : TIok Tryz.prog 246 ty246 := ⟨⟨_, info_of Tryz.type246, rfl, rfl, _, rfl, rfl⟩, ⟨_, Tryz.underlying246, rfl, ⟨_, rfl, rfl⟩⟩, rfl, rfl⟩
def ty247 : TI := ⟨true, 4, 40, .strct [(0, 17), (1, 17), (2, 17), (3, 9)], [(.pointer none), (.pointer none), (.pointer none), (.string .empty)]⟩
theorem ty247_ok : TIok Tryz.prog 247 ty247 := ⟨⟨_, info_of Tryz.type247, rfl, rfl, _, rfl, rfl⟩, ⟨_, Tryz.underlying247, rfl, ⟨_, rfl, rfl⟩⟩, rfl, rfl⟩
def ty248 : TI := ⟨true, 0, 0, .arr 0 16, []⟩
theorem ty248_ok : TIok Tryz.prog 248 ty248 := ⟨⟨_, info_of Tryz.type248, rfl, rfl, _, rfl, rfl⟩, ⟨_, Tryz.underlying248, rfl, rfl⟩, rfl, rfl⟩
def ty249 : TI := ⟨true, 0, 0, .strct [(0, 248)], []⟩
theorem ty249_ok : TIok Tryz.prog 249 ty249 := ⟨⟨_, info_of Tryz.type249, rfl, rfl, _, rfl, rfl⟩, ⟨_, Tryz.underlying249, rfl, ⟨_, rfl, rfl⟩⟩, rfl, rfl⟩
def ty250 : TI := ⟨true, 0, 0, .strct [(0, 248)], []⟩
theorem ty250_ok : TIok Tryz.prog 250 ty250 := ⟨⟨_, info_of Tryz.type250, rfl, rfl, _, rfl, rfl⟩, ⟨_, Tryz.underlying250, rfl, ⟨_, rfl, rfl⟩⟩, rfl, rfl⟩
def ty252 : TI := ⟨false, 1, 1, .int .u8, [(.int .u8 0)]⟩
theorem ty252_ok : TIok Tryz.prog 252 ty252 := ⟨⟨_, info_of Tryz.type252, rfl, rfl, _, rfl, ⟨_, rfl, rfl, rfl⟩⟩, ⟨_, Tryz.underlying252, rfl, rfl⟩, rfl, rfl⟩
def ty254 : TI := ⟨false, 1, 8, .ptr 5, [(.pointer none)]⟩
theorem ty254_ok : TIok Tryz.prog 254 ty254 := ⟨⟨_, info_of Tryz.type254, rfl, rfl, _, rfl, ⟨_, rfl, rfl, rfl⟩⟩, ⟨_, Tryz.underlying254, rfl, rfl⟩, rfl, rfl⟩
def ty255 : TI := ⟨false, 1, 4, .int .i32, [(.int .i32 0)]⟩
theorem ty255_ok : TIok Tryz.prog 255 ty255 := ⟨⟨_, info_of Tryz.type255, rfl, rfl, _, rfl, ⟨_, rfl, rfl, rfl⟩⟩, ⟨_, Tryz.underlying255, rfl, rfl⟩, rfl, rfl⟩
def ty256 : TI := ⟨false, 1, 4, .int .i32, [(.int .i32 0)]⟩
theorem ty256_ok : TIok Tryz.prog 256 ty256 := ⟨⟨_, info_of Tryz.type256, rfl, rfl, _, rfl, ⟨_, rfl, rfl, rfl⟩⟩, ⟨_, Tryz.underlying256, rfl, rfl⟩, rfl, rfl⟩
def ty257 : TI := ⟨true, 11, 48, .strct [(0, 12), (1, 12), (2, 114), (3, 252), (4, 5), (5, 5), (6, 177), (7, 253), (8, 254), (9, 255), (10, 256)], [(.int .u64 0), (.int .u64 0), (.int .u32 0), (.int .u8 0), (.int .u8 0), (.int .u8 0), (.int .u8 0), .nilFunc, (.pointer none), (.int .i32 0), (.int .i32 0)]⟩
theorem ty257_ok : TIok Tryz.prog 257 ty257 := ⟨⟨_, info_of Tryz.type257, rfl, rfl, _, rfl, rfl⟩, ⟨_, Tryz.underlying257, rfl, ⟨_, rfl, rfl⟩⟩, rfl, rfl⟩
def ty258 : TI := ⟨true, 11, 48, .strct [(0, 12), (1, 12), (2, 114), (3, 252), (4, 5), (5, 5), (6, 177), (7, 253), (8, 254), (9, 255), (10, 256)], [(.int .u64 0), (.int .u64 0), (.int .u32 0), (.int .u8 0), (.int .u8 0), (.int .u8 0), (.int .u8 0), .nilFunc, (.pointer none), (.int .i32 0), (.int .i32 0)]⟩
theorem ty258_ok : TIok Tryz.prog 258 ty258 := ⟨⟨_, info_of Tryz.type258, rfl, rfl, _, rfl, rfl⟩, ⟨_, Tryz.underlying258, rfl, ⟨_, rfl, rfl⟩⟩, rfl, rfl⟩
def ty261 : TI := ⟨true, 2, 24, .strct [(0, 9), (1, 177)], [(.string .empty), (.int .u8 0)]⟩
theorem ty261_ok : TIok Tryz.prog 261 ty261 := ⟨⟨_, info_of Tryz.type261, rfl, rfl, _, rfl, rfl⟩, ⟨_, Tryz.underlying261, rfl, ⟨_, rfl, rfl⟩⟩, rfl, rfl⟩
def ty262 : TI := ⟨true, 2, 24, .strct [(0, 9), (1, 177)], [(.string .empty), (.int .u8 0)]⟩
theorem ty262_ok : TIok Tryz.prog 262 ty262 := ⟨⟨_, info_of Tryz.type262, rfl, rfl, _, rfl, rfl⟩, ⟨_, Tryz.underlying262, rfl, ⟨_, rfl, rfl⟩⟩, rfl, rfl⟩
def ty263 : TI := ⟨true, 1, 16, .strct [(0, 9)], [(.string .empty)]⟩
theorem ty263_ok : TIok Tryz.prog 263 ty263 := ⟨⟨_, info_of Tryz.type263, rfl, rfl, _, rfl, rfl⟩, ⟨_, Tryz.underlying263, rfl, ⟨_, rfl, rfl⟩⟩, rfl, rfl⟩
def ty264 : TI := ⟨true, 1, 16, .strct [(0, 9)], [(.string .empty)]⟩
theorem ty264_ok : TIok Tryz.prog 264 ty264 := ⟨⟨_, info_of Tryz.type264, rfl, rfl, _, rfl, rfl⟩, ⟨_, Tryz.underlying264, rfl, ⟨_, rfl, rfl⟩⟩, rfl, rfl⟩
def ty265 : TI := ⟨false, 1, 8, .ptr 269, [(.pointer none)]⟩
theorem ty265_ok : TIok Tryz.prog 265 ty265 := ⟨⟨_, info_of Tryz.type265, rfl, rfl, _, rfl, ⟨_, rfl, rfl, rfl⟩⟩, ⟨_, Tryz.underlying265, rfl, rfl⟩, rfl, rfl⟩
def ty267 : TI := ⟨false, 1, 2, .int .u16, [(.int .u16 0)]⟩
theorem ty267_ok : TIok Tryz.prog 267 ty267 := ⟨⟨_, info_of Tryz.type267, rfl, rfl, _, rfl, ⟨_, rfl, rfl, rfl⟩⟩, ⟨_, Tryz.underlying267, rfl, rfl⟩, rfl, rfl⟩
def ty268 : TI := ⟨true, 5, 16, .strct [(0, 255), (1, 267), (2, 267), (3, 114), (4, 114)], [(.int .i32 0), (.int .u16 0), (.int .u16 0), (.int .u32 0), (.int .u32 0)]⟩
theorem ty268_ok : TIok Tryz.prog 268 ty268 := ⟨⟨_, info_of Tryz.type268, rfl, rfl, _, rfl, rfl⟩, ⟨_, Tryz.underlying268, rfl, ⟨_, rfl, rfl⟩⟩, rfl, rfl⟩
def ty269 : TI := ⟨true, 5, 16, .strct [(0, 255), (1, 267), (2, 267), (3, 114), (4, 114)], [(.int .i32 0), (.int .u16 0), (.int .u16 0), (.int .u32 0), (.int .u32 0)]⟩
theorem ty269_ok : TIok Tryz.prog 269 ty269 := ⟨⟨_, info_of Tryz.type269, rfl, rfl, _, rfl, rfl⟩, ⟨_, Tryz.underlying269, rfl, ⟨_, rfl, rfl⟩⟩, rfl, rfl⟩
def ty270 : TI := ⟨false, 1, 24, .slice 273, [(.slice none 0 0)]⟩
theorem ty270_ok : TIok Tryz.prog 270 ty270 := ⟨⟨_, info_of Tryz.type270, rfl, rfl, _, rfl, ⟨_, rfl, rfl, rfl⟩⟩, ⟨_, Tryz.underlying270, rfl, rfl⟩, rfl, rfl⟩
def ty271 : TI := ⟨false, 1, 4, .int .i32, [(.int .i32 0)]⟩
theorem ty271_ok : TIok Tryz.prog 271 ty271 := ⟨⟨_, info_of Tryz.type271, rfl, rfl, _, rfl, ⟨_, rfl, rfl, rfl⟩⟩, ⟨_, Tryz.underlying271, rfl, rfl⟩, rfl, rfl⟩
def ty272 : TI := ⟨true, 4, 16, .strct [(0, 255), (1, 256), (2, 271), (3, 271)], [(.int .i32 0), (.int .i32 0), (.int .i32 0), (.int .i32 0)]⟩
theorem ty272_ok : TIok Tryz.prog 272 ty272 := ⟨⟨_, info_of Tryz.type272, rfl, rfl, _, rfl, rfl⟩, ⟨_, Tryz.underlying272, rfl, ⟨_, rfl, rfl⟩⟩, rfl, rfl⟩
def ty273 : TI := ⟨true, 4, 16, .strct [(0, 255), (1, 256), (2, 271), (3, 271)], [(.int .i32 0), (.int .i32 0), (.int .i32 0), (.int .i32 0)]⟩
theorem ty273_ok : TIok Tryz.prog 273 ty273 := ⟨⟨_, info_of Tryz.type273, rfl, rfl, _, rfl, rfl⟩, ⟨_, Tryz.underlying273, rfl, ⟨_, rfl, rfl⟩⟩, rfl, rfl⟩
def ty275 : TI := ⟨false, 1, 8, .ptr 139, [(.pointer none)]⟩
theorem ty275_ok : TIok Tryz.prog 275 ty275 := ⟨⟨_, info_of Tryz.type275, rfl, rfl, _, rfl, ⟨_, rfl, rfl, rfl⟩⟩, ⟨_, Tryz.underlying275, rfl, rfl⟩, rfl, rfl⟩
def tys : TT := (.node (.node (.node (.node (.node (.node (.node .leaf 2 ty2 .leaf) 3 ty3 (.node .leaf 4 ty4 .leaf)) 5 ty5 (.node (.node .leaf 6 ty6 .leaf) 7 ty7 (.node .leaf 8 ty8 .leaf))) 9 ty9 (.node (.node (.node .leaf 10 ty10 .leaf) 11 ty11 (.node .leaf 12 ty12 .leaf)) 13 ty13 (.node (.node .leaf 14 ty14 .leaf) 15 ty15 (.node .leaf 16 ty16 .leaf)))) 17 ty17 (.node (.node (.node (.node .leaf 18 ty18 .leaf) 19 ty19 (.node .leaf 20 ty20 .leaf)) 21 ty21 (.node (.node .leaf 22 ty22 .leaf) 23 ty23 (.node .leaf 24 ty24 .leaf))) 25 ty25 (.node (.node (.node .leaf 26 ty26 .leaf) 27 ty27 (.node .leaf 47 ty47 .leaf)) 48 ty48 (.node (.node .leaf 49 ty49 .leaf) 50 ty50 .leaf)))) 53 ty53 (.node (.node (.node (.node (.node .leaf 54 ty54 .leaf) 75 ty75 (.node .leaf 86 ty86 .leaf)) 87 ty87 (.node (.node .leaf 93 ty93 .leaf) 94 ty94 (.node .leaf 95 ty95 .leaf))) 99 ty99 (.node (.node (.node .leaf 100 ty100 .leaf) 110 ty110 (.node .leaf 112 ty112 .leaf)) 113 ty113 (.node (.node .leaf 114 ty114 .leaf) 115 ty115 .leaf))) 116 ty116 (.node (.node (.node (.node .leaf 117 ty117 .leaf) 118 ty118 (.node .leaf 119 ty119 .leaf)) 120 ty120 (.node (.node .leaf 128 ty128 .leaf) 129 ty129 (.node .leaf 136 ty136 .leaf))) 138 ty138 (.node (.node (.node .leaf 139 ty139 .leaf) 141 ty141 (.node .leaf 142 ty142 .leaf)) 143 ty143 (.node (.node .leaf 144 ty144 .leaf) 145 ty145 .leaf))))) 146 ty146 (.node (.node (.node (.node (.node (.node .leaf 147 ty147 .leaf) 148 ty148 (.node .leaf 151 ty151 .leaf)) 152 ty152 (.node (.node .leaf 153 ty153 .leaf) 168 ty168 (.node .leaf 170 ty170 .leaf))) 171 ty171 (.node (.node (.node .leaf 172 ty172 .leaf) 174 ty174 (.node .leaf 175 ty175 .leaf)) 177 ty177 (.node (.node .leaf 182 ty182 .leaf) 183 ty183 .leaf))) 184 ty184 (.node (.node (.node (.node .leaf 186 ty186 .leaf) 190 ty190 (.node .leaf 191 ty191 .leaf)) 200 ty200 (.node (.node .leaf 201 ty201 .leaf) 205 ty205 (.node .leaf 207 ty207 .leaf))) 213 ty213 (.node (.node (.node .leaf 214 ty214 .leaf) 215 ty215 (.node .leaf 218 ty218 .leaf)) 221 ty221 (.node (.node .leaf 222 ty222 .leaf) 223 ty223 .leaf)))) 225 ty225 (.node (.node (.node (.node (.node .leaf 227 ty227 .leaf) 231 ty231 (.node .leaf 235 ty235 .leaf)) 237 ty237 (.node (.node .leaf 244 ty244 .leaf) 246 ty246 (.node .leaf 247 ty247 .leaf))) 248 ty248 (.node (.node (.node .leaf 249 ty249 .leaf) 250 ty250 (.node .leaf 252 ty252 .leaf)) 254 ty254 (.node (.node .leaf 255 ty255 .leaf) 256 ty256 .leaf))) 257 ty257 (.node (.node (.node (.node .leaf 258 ty258 .leaf) 261 ty261 (.node .leaf 262 ty262 .leaf)) 263 ty263 (.node (.node .leaf 264 ty264 .leaf) 265 ty265 (.node .leaf 267 ty267 .leaf))) 268 ty268 (.node (.node (.node .leaf 269 ty269 .leaf) 270 ty270 (.node .leaf 271 ty271 .leaf)) 272 ty272 (.node (.node .leaf 273 ty273 .leaf) 275 ty275 .leaf))))))
theorem tys_ok : tys.All (TIok Tryz.prog) := ⟨⟨⟨⟨⟨⟨⟨trivial, ty2_ok, trivial⟩, ty3_ok, ⟨trivial, ty4_ok, trivial⟩⟩, ty5_ok, ⟨⟨trivial, ty6_ok, trivial⟩, ty7_ok, ⟨trivial, ty8_ok, trivial⟩⟩⟩, ty9_ok, ⟨⟨⟨trivial, ty10_ok, trivial⟩, ty11_ok, ⟨trivial, ty12_ok, trivial⟩⟩, ty13_ok, ⟨⟨trivial, ty14_ok, trivial⟩, ty15_ok, ⟨trivial, ty16_ok, trivial⟩⟩⟩⟩, ty17_ok, ⟨⟨⟨⟨trivial, ty18_ok, trivial⟩, ty19_ok, ⟨trivial, ty20_ok, trivial⟩⟩, ty21_ok, ⟨⟨trivial, ty22_ok, trivial⟩, ty23_ok, ⟨trivial, ty24_ok, trivial⟩⟩⟩, ty25_ok, ⟨⟨⟨trivial, ty26_ok, trivial⟩, ty27_ok, ⟨trivial, ty47_ok, trivial⟩⟩, ty48_ok, ⟨⟨trivial, ty49_ok, trivial⟩, ty50_ok, trivial⟩⟩⟩⟩, ty53_ok, ⟨⟨⟨⟨⟨trivial, ty54_ok, trivial⟩, ty75_ok, ⟨trivial, ty86_ok, trivial⟩⟩, ty87_ok, ⟨⟨trivial, ty93_ok, trivial⟩, ty94_ok, ⟨trivial, ty95_ok, trivial⟩⟩⟩, ty99_ok, ⟨⟨⟨trivial, ty100_ok, trivial⟩, ty110_ok, ⟨trivial, ty112_ok, trivial⟩⟩, ty113_ok, ⟨⟨trivial, ty114_ok, trivial⟩, ty115_ok, trivial⟩⟩⟩, ty116_ok, ⟨⟨⟨⟨trivial, ty117_ok, trivial⟩, ty118_ok, ⟨trivial, ty119_ok, trivial⟩⟩, ty120_ok, ⟨⟨trivial, ty128_ok, trivial⟩, ty129_ok, ⟨trivial, ty136_ok, trivial⟩⟩⟩, ty138_ok, ⟨⟨⟨trivial, ty139_ok, trivial⟩, ty141_ok, ⟨trivial, ty142_ok, trivial⟩⟩, ty143_ok, ⟨⟨trivial, ty144_ok, trivial⟩, ty145_ok, trivial⟩⟩⟩⟩⟩, ty146_ok, ⟨⟨⟨⟨⟨⟨trivial, ty147_ok, trivial⟩, ty148_ok, ⟨trivial, ty151_ok, trivial⟩⟩, ty152_ok, ⟨⟨trivial, ty153_ok, trivial⟩, ty168_ok, ⟨trivial, ty170_ok, trivial⟩⟩⟩, ty171_ok, ⟨⟨⟨trivial, ty172_ok, trivial⟩, ty174_ok, ⟨trivial, ty175_ok, trivial⟩⟩, ty177_ok, ⟨⟨trivial, ty182_ok, trivial⟩, ty183_ok, trivial⟩⟩⟩, ty184_ok, ⟨⟨⟨⟨trivial, ty186_ok, trivial⟩, ty190_ok, ⟨trivial, ty191_ok, trivial⟩⟩, ty200_ok, ⟨⟨trivial, ty201_ok, trivial⟩, ty205_ok, ⟨trivial, ty207_ok, trivial⟩⟩⟩, ty213_ok, ⟨⟨⟨trivial, ty214_ok, trivial⟩, ty215_ok, ⟨trivial, ty218_ok, trivial⟩⟩, ty221_ok, ⟨⟨trivial, ty222_ok, trivial⟩, ty223_ok, trivial⟩⟩⟩⟩, ty225_ok, ⟨⟨⟨⟨⟨trivial, ty227_ok, trivial⟩, ty231_ok, ⟨trivial, ty235_ok, trivial⟩⟩, ty237_ok, ⟨⟨trivial, ty244_ok, trivial⟩, ty246_ok, ⟨trivial, ty247_ok, trivial⟩⟩⟩, ty248_ok, ⟨⟨⟨trivial, ty249_ok, trivial⟩, ty250_ok, ⟨trivial, ty252_ok, trivial⟩⟩, ty254_ok, ⟨⟨trivial, ty255_ok, trivial⟩, ty256_ok, trivial⟩⟩⟩, ty257_ok, ⟨⟨⟨⟨trivial, ty258_ok, trivial⟩, ty261_ok, ⟨trivial, ty262_ok, trivial⟩⟩, ty263_ok, ⟨⟨trivial, ty264_ok, trivial⟩, ty265_ok, ⟨trivial, ty267_ok, trivial⟩⟩⟩, ty268_ok, ⟨⟨⟨trivial, ty269_ok, trivial⟩, ty270_ok, ⟨trivial, ty271_ok, trivial⟩⟩, ty272_ok, ⟨⟨trivial, ty273_ok, trivial⟩, ty275_ok, trivial⟩⟩⟩⟩⟩⟩
def gl : List (Nat × Value) := [(1, .iface 214 (.agg #[.pointer (some ⟨2, 139, none⟩)]))]
noncomputable def ctx : Ctx := ⟨Tryz.prog, tys.find, fun _ _ h => TT.find_all tys_ok h, company _ gl, company_sound _ gl⟩
theorem ctx_mixed : ctx.P.follows .mixedOrders = true := by rfl
theorem ctx_enters : ctx.M.Enters := company_enters _ gl
theorem ctx_gl {x : ctx.M.X} {E : Emb} {w : World} (h : ctx.M.ok x E w) : Gl gl E w := h.2
end Go.Proofs.YtdjoodbidcncaaaGreatDoor.AW

/- Small words for walks by computation. -/
namespace Go.Proofs.YtdjoodbidcncaaaGreatDoor.AW
open Go

abbrev ci (x : Int) : List CV := [.sc (.int .i64 x)]
def rows {α : Type} (g : α → List CV) (l : List α) : List (List CV) := l.map g
abbrev sl (l : List Int) (cap : Option Nat) : AV := .cv (.ro 1 (rows ci l) cap)
theorem rows_len {α : Type} (g : α → List CV) (l : List α) : (rows g l).length = l.length := by simp [rows]
theorem rows_get {α : Type} {g : α → List CV} {l : List α} {j : Nat} (h : j < l.length) : (rows g l)[j]? = some (g l[j]) := by simp [rows, h]
theorem wrap_i64 {z : Int} (h1 : -9223372036854775808 ≤ z) (h2 : z ≤ 9223372036854775807) : IntKind.i64.wrap z = z := wrap64 h1 h2
/-! two ways -/
theorem Br.dec {p : Prop} [Decidable p] {A B : Prop} (a : p → A) (b : ¬p → B) : Br (decide p) A B := ⟨fun h => a (of_decide_eq_true h), fun h => b (of_decide_eq_false h)⟩
theorem Br.yesd {p : Prop} [Decidable p] {A B : Prop} (a : A) (h : p := by omega) : Br (decide p) A B := .yes (decide_eq_true h) a
theorem Br.nod {p : Prop} [Decidable p] {A B : Prop} (b : B) (h : ¬p := by omega) : Br (decide p) A B := .no (decide_eq_false h) b
theorem Br.decn {p : Prop} [Decidable p] {A B : Prop} (a : ¬p → A) (b : p → B) : Br (!decide p) A B := ⟨fun h => a (by simpa using h), fun h => b (by simpa using h)⟩
theorem Br.yesn {p : Prop} [Decidable p] {A B : Prop} (a : A) (h : ¬p := by omega) : Br (!decide p) A B := .yes (by simp [h]) a
theorem Br.nodn {p : Prop} [Decidable p] {A B : Prop} (b : B) (h : p := by omega) : Br (!decide p) A B := .no (by simp [h]) b
theorem Br.nt {A B : Prop} (b : B) : Br (!true) A B := .no rfl b
theorem Br.nf {A B : Prop} (a : A) : Br (!false) A B := .yes rfl a
theorem Br.beq {b : Bool} {A B : Prop} (a : A) : Br (b == b) A B := .yes (by simp) a
theorem Br.bne {b : Bool} {A B : Prop} (k : B) : Br (b != b) A B := .no (by simp) k
theorem Br.tt {A B : Prop} (a : A) : Br true A B := .yes rfl a
theorem Br.ff {A B : Prop} (b : B) : Br false A B := .no rfl b
/-! steps -/
theorem d_chk {N : Nat} {draw : Bool} {ops : Array Oper} {l : List FP} {K : Prop} (k : K) (h : chk N draw ops l = true := by decide +kernel) : chk N draw ops l = true ∧ K := ⟨h, k⟩
theorem d_wrap {x : Int} {K : Int → Prop} (k : K x) (h : -9223372036854775808 ≤ x ∧ x ≤ 9223372036854775807 := by omega) : ∃ z, IntKind.i64.wrap x = z ∧ K z := ⟨x, wrap_i64 h.1 h.2, k⟩
theorem d_nat {n : Nat} {K : Nat → Prop} (k : K n) : ∃ j : Nat, (j : Int) = (n : Int) ∧ K j := ⟨n, rfl, k⟩
theorem d_nati {a : Int} {K : Nat → Prop} (k : K a.toNat) (h : 0 ≤ a := by omega) : ∃ j : Nat, (j : Int) = a ∧ K j := ⟨_, Int.toNat_of_nonneg h, k⟩
theorem d_get {α : Type} {g : α → List CV} {l : List α} {j : Nat} {K : List CV → Prop} (h : j < l.length) (k : K (g l[j])) : ∃ x, (rows g l)[j]? = some x ∧ K x := ⟨_, rows_get h, k⟩
theorem d_le {a b : Nat} {K : Prop} (k : K) (h : a ≤ b := by omega) : a ≤ b ∧ K := ⟨h, k⟩
theorem d_lt {a b : Nat} {K : Prop} (k : K) (h : a < b := by omega) : a < b ∧ K := ⟨h, k⟩
theorem d_left {k nx : Nat} {res x : AV} {H : Nat → Option Block} {Hout : List (Nat × Option Block)} (l : List (Nat × Nat)) (h1 : LeA (lk l) res x) (h2 : AllH (lk l) H Hout) (h : renOk k nx l = true := by decide +kernel) : ∃ l : List (Nat × Nat), renOk k nx l = true ∧ LeA (lk l) res x ∧ AllH (lk l) H Hout := ⟨l, h, h1, h2⟩
theorem d_sub {k nx : Nat} (l : List (Nat × Nat)) {st : St} {T : List (Nat × AV)} {H : List (Nat × Option Block)} (h1 : AllT (lk l) (get st.T) T) (h2 : AllH (lk l) (geth st.H) H) (h : renOk k nx l = true := by decide +kernel) : Sub k l st ⟨T, H, nx⟩ := ⟨h, h1, h2⟩
structure Hid (p : Prop) : Prop where
  out : p
theorem d_end {X : Type} {P : X → Prop} {μ : X → Nat} {I : X → St} {k : Nat} {st : St} {m : Nat} (x : X) (l : List (Nat × Nat)) (h1 : Sub k l st (I x)) (h2 : Hid (P x)) (h3 : μ x < m := by omega) : ∃ (x' : X) (l : List (Nat × Nat)), Sub k l st (I x') ∧ P x' ∧ μ x' < m := ⟨x, l, h1, h2.out, h3⟩
/-- a loop -/
theorem AW.loopP {N k : Nat} {c : Code} {st : St} {Q : Exit → St → Prop} {X : Type} (I : X → St) (P : X → Prop) (μ : X → Nat) (x₀ : X) (l₀ : List (Nat × Nat)) (h₀ : Sub k l₀ st (I x₀)) (p₀ : P x₀)
    (round : ∀ x, P x → vc ctx N k c (I x) fun e st' => match e with | .normal => ∃ (x' : X) (l : List (Nat × Nat)), Sub k l st' (I x') ∧ P x' ∧ μ x' < μ x | e => Q e st') : AW ctx N k (.loop c) st Q := by
  refine AW.loop (X := {x // P x}) (fun x => I x.1) (fun x => μ x.1) ⟨x₀, p₀⟩ l₀ h₀ fun ⟨x, hx⟩ => (vc_ok ctx_mixed c _ _ (round x hx)).mono fun e st' h => ?_
  cases e with
  | normal => obtain ⟨x', l, h1, h2, h3⟩ := h; exact ⟨⟨x', h2⟩, l, h1, h3⟩
  | _ => exact h
/-! what is told -/
theorem sc_int {k : IntKind} {a b : Int} (h : a = b := by omega) : CV.sc (.int k a) = CV.sc (.int k b) := by rw [h]
theorem sc_bt {p : Prop} [Decidable p] (h : Hid p) : CV.sc (.bool true) = CV.sc (.bool (decide p)) := by simp [h.out]
theorem sc_bf {p : Prop} [Decidable p] (h : Hid (¬p)) : CV.sc (.bool false) = CV.sc (.bool (decide p)) := by simp [h.out]
theorem sc_bb {p q : Prop} [Decidable p] [Decidable q] (h : Hid (p ↔ q)) : CV.sc (.bool (decide p)) = CV.sc (.bool (decide q)) := by simp [h.out]
theorem sc_bh {a b : Bool} (h : Hid (a = b)) : CV.sc (.bool a) = CV.sc (.bool b) := by rw [h.out]
theorem sc_ih {k : IntKind} {a b : Int} (h : Hid (a = b)) : CV.sc (.int k a) = CV.sc (.int k b) := by rw [h.out]
theorem tmod_nat (x y : Nat) : Int.tmod (x : Int) (y : Int) = ((x % y : Nat) : Int) := by simp [Int.tmod]
theorem d_rem {x y : Nat} {K : Int → Prop} (k : K ((x % y : Nat) : Int)) (h : (y : Int) ≠ 0 := by omega) : (y : Int) ≠ 0 ∧ ∃ z, Int.tmod (x : Int) (y : Int) = z ∧ K z := ⟨h, _, tmod_nat x y, k⟩
/-! loops of more names -/
structure X2 (A B : Type) where
  a : A
  b : B
structure X3 (A B C : Type) where
  a : A
  b : B
  c : C
theorem d_end2 {A B : Type} {P : A → B → Prop} {μ : A → B → Nat} {I : A → B → St} {k : Nat} {st : St} {m : Nat} (x : A) (y : B) (l : List (Nat × Nat)) (h1 : Sub k l st (I x y)) (h2 : Hid (P x y)) (h3 : μ x y < m := by omega) : ∃ (x' : A) (y' : B) (l : List (Nat × Nat)), Sub k l st (I x' y') ∧ P x' y' ∧ μ x' y' < m := ⟨x, y, l, h1, h2.out, h3⟩
theorem AW.loopP2 {N k : Nat} {c : Code} {st : St} {Q : Exit → St → Prop} {A B : Type} (I : A → B → St) (P : A → B → Prop) (μ : A → B → Nat) (x₀ : A) (y₀ : B) (l₀ : List (Nat × Nat)) (h₀ : Sub k l₀ st (I x₀ y₀)) (p₀ : P x₀ y₀)
    (round : ∀ x y, P x y → vc ctx N k c (I x y) fun e st' => match e with | .normal => ∃ (x' : A) (y' : B) (l : List (Nat × Nat)), Sub k l st' (I x' y') ∧ P x' y' ∧ μ x' y' < μ x y | e => Q e st') : AW ctx N k (.loop c) st Q := by
  refine AW.loop (X := {x : X2 A B // P x.a x.b}) (fun x => I x.1.a x.1.b) (fun x => μ x.1.a x.1.b) ⟨⟨x₀, y₀⟩, p₀⟩ l₀ h₀ fun ⟨⟨x, y⟩, hx⟩ => (vc_ok ctx_mixed c _ _ (round x y hx)).mono fun e st' h => ?_
  cases e with
  | normal => obtain ⟨x', y', l, h1, h2, h3⟩ := h; exact ⟨⟨⟨x', y'⟩, h2⟩, l, h1, h3⟩
  | _ => exact h
theorem d_end3 {A B D : Type} {P : A → B → D → Prop} {μ : A → B → D → Nat} {I : A → B → D → St} {k : Nat} {st : St} {m : Nat} (x : A) (y : B) (z : D) (l : List (Nat × Nat)) (h1 : Sub k l st (I x y z)) (h2 : Hid (P x y z)) (h3 : μ x y z < m := by omega) : ∃ (x' : A) (y' : B) (z' : D) (l : List (Nat × Nat)), Sub k l st (I x' y' z') ∧ P x' y' z' ∧ μ x' y' z' < m := ⟨x, y, z, l, h1, h2.out, h3⟩
theorem AW.loopP3 {N k : Nat} {c : Code} {st : St} {Q : Exit → St → Prop} {A B D : Type} (I : A → B → D → St) (P : A → B → D → Prop) (μ : A → B → D → Nat) (x₀ : A) (y₀ : B) (z₀ : D) (l₀ : List (Nat × Nat)) (h₀ : Sub k l₀ st (I x₀ y₀ z₀)) (p₀ : P x₀ y₀ z₀)
    (round : ∀ x y z, P x y z → vc ctx N k c (I x y z) fun e st' => match e with | .normal => ∃ (x' : A) (y' : B) (z' : D) (l : List (Nat × Nat)), Sub k l st' (I x' y' z') ∧ P x' y' z' ∧ μ x' y' z' < μ x y z | e => Q e st') : AW ctx N k (.loop c) st Q := by
  refine AW.loop (X := {x : X3 A B D // P x.a x.b x.c}) (fun x => I x.1.a x.1.b x.1.c) (fun x => μ x.1.a x.1.b x.1.c) ⟨⟨x₀, y₀, z₀⟩, p₀⟩ l₀ h₀ fun ⟨⟨x, y, z⟩, hx⟩ => (vc_ok ctx_mixed c _ _ (round x y z hx)).mono fun e st' h => ?_
  cases e with
  | normal => obtain ⟨x', y', z', l, h1, h2, h3⟩ := h; exact ⟨⟨⟨x', y', z'⟩, h2⟩, l, h1, h3⟩
  | _ => exact h
def seqI (k : Int) (n : Nat) : List Int := (List.range n).map fun i : Nat => k + i
abbrev nilS : AV := .cv (.sc (.slice none 0 0))
/-! data of the program -/
structure Prt where
  id : Int
  kind : Int
  side : Int
  list : List Int
deriving DecidableEq
structure Co where
  side : Int
  kind : Int
  sum : List Int
  ids : List Int
deriving DecidableEq
structure Ba where
  one : Co
  two : Co
  need : Int
deriving DecidableEq
structure Le where
  cap : Int × Int
  paid : List (Int × Int)
deriving DecidableEq
structure Wo where
  one : List Prt
  two : List Prt
  bat : Ba
  bad : List Int
  led : Le
  a : Int
  b : Int
deriving DecidableEq
abbrev coL (c : Co) : List AV := [iv .i64 c.side, iv .i64 c.kind, sl c.sum none, sl c.ids none]
abbrev baL (b : Ba) : List AV := [iv .i64 b.one.side, iv .i64 b.one.kind, sl b.one.sum none, sl b.one.ids none, iv .i64 b.two.side, iv .i64 b.two.kind, sl b.two.sum none, sl b.two.ids none, iv .i64 b.need]
abbrev Sm {α : Type} (l : List α) : Prop := l.length ≤ 4611686018427387904
def Co.sm (c : Co) : Prop := Sm c.sum ∧ Sm c.ids
def Ba.sm (b : Ba) : Prop := b.one.sm ∧ b.two.sm
def Wo.sm (w : Wo) : Prop := Sm w.one ∧ Sm w.two ∧ (∀ p ∈ w.one, Sm p.list) ∧ (∀ p ∈ w.two, Sm p.list) ∧ w.bat.sm ∧ Sm w.bad ∧ Sm w.led.paid
abbrev prA (p : Prt) : AV := .agg [iv .i64 p.id, iv .i64 p.kind, iv .i64 p.side, sl p.list none]
end Go.Proofs.YtdjoodbidcncaaaGreatDoor.AW

/- The outermost call, beside leavers. -/
namespace Go.Proofs.YtdjoodbidcncaaaGreatDoor.AW
open Go Go.Conc Go.RowKit
section
variable {C : Ctx}
theorem body_mk (hm : C.P.follows .mixedOrders = true) {f : FuncId} {fn : Func} {c : Code} {args : List AV} {Hin : List Block} {res : AV} {Hout : List (Nat × Option Block)} (nx : Nat) (hf : C.P.funcs[f]? = some fn) (hn : (fn.name == "runtime.NumGoroutine") = false) (hb : fn.body = some c)
    (hl : args.length ≤ fn.ntmps) (k : Nat) (hk : Hin.length = k) (h : vc C fn.ntmps k c ⟨tin 0 args, hin2 0 Hin, k⟩ (Left C k nx fn.results res Hout)) :
    ∀ (E : Emb) (w : World) (x : C.M.X) (vs : List Value), vs.length = args.length → (∀ (k : Nat) (x : AV), args[k]? = some x → RepA w E x (vs.getD k undef)) → HInv E (hin Hin) w → (∀ b, E.U b ↔ b < Hin.length) → C.M.ok x E w →
      C.M.Code f c (C.M.bodyM f fn fun v w' x' => ∃ E', RepA w' E' res v ∧ HInv E' (geth Hout) w' ∧ Ext (· < Hin.length) E w E' w' ∧ C.M.ok x' E' w' ∧ C.M.le x w.heap.size x') { tmps := vs.toArray ++ Array.replicate (fn.ntmps - vs.toArray.size) undef, defers := [] } w x := by
  subst hk
  intro E w x vs hvl hvs hh hU hok
  have hI : Inv C.M fn.ntmps Hin.length E ⟨tin 0 args, hin2 0 Hin, Hin.length⟩ { tmps := vs.toArray ++ Array.replicate (fn.ntmps - vs.toArray.size) undef, defers := [] } w x := by
    refine ⟨⟨fun t => ?_, by simp; omega, rfl⟩, ?_, fun b hb => (hU b).1 hb, fun b hb => (hU b).2 hb, hok⟩
    · simp only [get_tin, Nat.zero_le, if_true, Nat.sub_zero]
      cases ha : args[t]? with
      | none => exact .any _
      | some x =>
        have := hvs t x ha
        have hlt : t < vs.length := by rw [hvl]; exact (List.getElem?_eq_some_iff.1 ha).1
        have e : (vs.toArray ++ Array.replicate (fn.ntmps - vs.toArray.size) undef).getD t undef = vs.getD t undef := by
          simp only [Array.getD_eq_getD_getElem?]
          rw [Array.getElem?_append_left (by simpa using hlt)]
          simp [List.getD]
        rw [e]; exact this
    · have : geth (hin2 0 Hin) = hin Hin := by funext b; rw [geth_hin2]; simp [hin]
      simp only [this]; exact hh
  refine C.sound.mono (vc_ok hm c _ _ h f E _ w x hI) fun e a' w' x' ⟨st', E', h1, h2, h3, hle⟩ => ?_
  have fin : (vRes C st' fn.results.toList fun r => ∃ l : List (Nat × Nat), renOk Hin.length nx l = true ∧ LeA (lk l) res (one r) ∧ AllH (lk l) (geth st'.H) Hout) → a'.defers = [] ∧ ∀ w₁, C.M.Rel w' w₁ → ∃ v, (results fn a'.tmps).run C.P w₁ = .ok v w₁ ∧ C.M.evs x' w₁ (seen C.P f ((results fn a'.tmps).events C.P w₁ #[])) ∧
      ∃ E', RepA w₁ E' res v ∧ HInv E' (geth Hout) w₁ ∧ Ext (· < Hin.length) E w E' w₁ ∧ C.M.ok x' E' w₁ ∧ C.M.le x w.heap.size x' := fun hv => by
    refine ⟨h2.t.df, fun w₁ hrel => ?_⟩
    obtain ⟨hheap, hio⟩ := C.sound.rel hrel
    obtain ⟨s1, s2⟩ := h2.h.same hheap hio
    have st₁ := h2.t.mono s2 (fun _ h => h) h2.h.prfr
    have hok₁ := C.sound.okExt h2.ok s2
    have h3 := h3.trans (s2.weaken fun b hb => h2.k b hb)
    obtain ⟨r, ⟨l, q1, q2, q3⟩, hr⟩ := vRes_run hv
    obtain ⟨ws, e1, e2, e3, e4⟩ := hr _ E' a' w₁ st₁ s1
    obtain ⟨g1, g2⟩ := ren_heap q1 s1 h2.k q3
    have hone : RepA w₁ E' (one r) (if h : ws.toArray.size = 1 then ws.toArray[0] else .tuple ws.toArray) := by
      unfold one
      split
      · rename_i x
        have hws : ws.length = 1 := e2
        rw [dif_pos (by simpa using hws)]
        have := e3 0 x rfl
        have h0 : 0 < ws.length := by omega
        simpa [List.getD, h0] using this
      · rename_i hne
        have hws : ¬ ws.toArray.size = 1 := fun h => by
          have : r.length = 1 := by rw [← e2]; simpa using h
          obtain ⟨x, hx⟩ := List.length_eq_one_iff.1 this
          exact hne x hx
        rw [dif_neg hws]
        exact .tup _ _ (by simpa using e2) fun k y hy => by
          have := e3 k y hy
          simpa [List.getD, Array.getD_eq_getD_getElem?] using this
    refine ⟨_, ?_, C.sound.evSub (C.sound.okEv (es := (results fn a'.tmps).events C.P w₁ #[]) hok₁ (w' := w₁) ?_) seen_sub, _, LeA.rep q2 hone, g1, h3.trans g2, C.sound.okExt hok₁ g2, hle⟩
    · rw [results_eq, Array.mapM_eq_mapM_toList, Sem.run_bind, Sem.run_map, e1]
      rfl
    · rw [results_eq, Array.mapM_eq_mapM_toList]
      refine .union fun ev hev => ?_
      rcases mem_seq hev (show _ = Result.ok ws.toArray w₁ by rw [Sem.run_map, e1]; rfl) with h | h
      · rw [Sem.events_map] at h; exact e4.one h
      · simp at h
  cases e with
  | normal => exact fin h1
  | ret => exact fin h1
  | _ => exact h1.elim
end
/-- nothing is owned; all there is may be read -/
def rowE (w : World) : Emb := { blk := fun _ => 0, sz := fun _ => 0, U := fun _ => False, gh := fun _ => False, pr := (· < w.heap.size), fr := (· < w.heap.size) }
/-- ████ the outermost call of a law: it says true, on every schedule ████ -/
structure Top (f : FuncId) (args : List AV) : Prop where
  run : ∀ (w : World) (vs : List Value), vs.length = args.length → (∀ (k : Nat) (x : AV), args[k]? = some x → RepA w (rowE w) x (vs.getD k undef)) → Gl gl (rowE w) w →
    Ends Tryz.prog (fun v w' => v = .bool true ∧ Below w.heap.size w w') (shunOf fun _ => False) (G (Frame.enter Tryz.prog f vs.toArray .normal) []) w
theorem top_mk {f : FuncId} {fn : Func} {c : Code} {args : List AV} (hf : Tryz.prog.funcs[f]? = some fn) (hi : Tryz.prog.inits.idxOf? f = none) (hn : (fn.name == "runtime.NumGoroutine") = false) (hb : fn.body = some c)
    (hl : args.length ≤ fn.ntmps) (h : vc ctx fn.ntmps 0 c ⟨tin 0 args, hin2 0 [], 0⟩ (Left ctx 0 0 fn.results (bv true) [])) : Top f args := by
  refine ⟨fun w vs hvl hvs hgl => ?_⟩
  have hb' := body_mk (C := ctx) ctx_mixed 0 hf hn hb hl 0 rfl h (rowE w) w (show ctx.M.X from shunOf fun _ => False) vs hvl hvs ⟨fun b B h => by simp [hin] at h, fun b B h => by simp [hin] at h, fun b b' B B' h => by simp [hin] at h, fun r h => h, fun r h => h⟩ (fun b => by simp [rowE]) ⟨⟨_, rfl, ⟨fun _ _ h => h, fun _ h => h.elim, fun _ h => h.elim, fun _ h => h.elim⟩⟩, hgl⟩
  refine ends_of_wpE hi hf hb (wpE_mono hb' fun e a w' S' q => ?_)
  have fin : ∀ {v : Value} {w₁ : World} {x' : ctx.M.X}, (∃ E', RepA w₁ E' (bv true) v ∧ HInv E' (geth []) w₁ ∧ Ext (· < ([] : List Block).length) (rowE w) w E' w₁ ∧ ctx.M.ok x' E' w₁ ∧ ctx.M.le (show ctx.M.X from shunOf fun _ => False) w.heap.size x') → v = .bool true ∧ Below w.heap.size w w₁ := fun ⟨E', h2, h3, h4, _, _⟩ =>
    ⟨rep_sc h2, ⟨h4.io.1, h4.io.2.1, h4.io.2.2, h4.sz, fun k hk => h4.keep k hk⟩⟩
  cases e with
  | normal => exact ⟨q.1, fun w₁ hr => by obtain ⟨v, h1, h2, h3⟩ := q.2 w₁ hr; exact ⟨v, h1, h2, fin h3⟩⟩
  | ret => exact ⟨q.1, fun w₁ hr => by obtain ⟨v, h1, h2, h3⟩ := q.2 w₁ hr; exact ⟨v, h1, h2, fin h3⟩⟩
  | _ => exact q.elim
theorem past_none (S : Sh) (B : Nat) : Past S B #[] :=
  ⟨fun said => by rintro ⟨i, j, _, ⟨a, b, ha, _⟩, _⟩; simp [Trace.act?] at ha, fun i a ha => by simp [touchAt, Trace.act?] at ha, fun i g hg => by simp [Trace.g?] at hg, rfl, by simp⟩
theorem Top.good {f : FuncId} {args : List AV} (T : Top f args) {W : World} {vs : List Value} (hl : vs.length = args.length) (hr : ∀ (k : Nat) (x : AV), args[k]? = some x → RepA W (rowE W) x (vs.getD k undef)) (hg : Gl gl (rowE W) W) :
    ∃ M last o w' t', runNT Tryz.prog (M + 1) (solo (G (Frame.enter Tryz.prog f vs.toArray .normal) []) W) #[] = (.ended o w', t') ∧ runN Tryz.prog M (solo (G (Frame.enter Tryz.prog f vs.toArray .normal) []) W) = .next last ∧
      step Tryz.prog last = .ended o w' ∧ Conc.Good Tryz.prog (fun v W' => v = .bool true ∧ Below W.heap.size W W') last o w' t' := by
  have := T.run W vs hl hr hg #[G (Frame.enter Tryz.prog f vs.toArray .normal) []] none #[] (fun _ => 0) W (atRel_refl _) (by simp) (leavers_one _ _) (past_none _ _)
  rw [← solo_eq_crowd] at this
  exact this
end Go.Proofs.YtdjoodbidcncaaaGreatDoor.AW

/- From the outermost call of a law to a row that says 'leaving', and its tied card. -/
namespace Go.Proofs.YtdjoodbidcncaaaGreatDoor.AW
open Go Go.ChangeShapes Go.WideShapes Go.ChangeAt Go.RowKit Go.Conc
set_option linter.unusedVariables false
theorem all_nil {w : World} {E : Emb} {vs : List Value} : ∀ (k : Nat) (x : AV), ([] : List AV)[k]? = some x → RepA w E x (vs.getD k undef) := by simp
theorem all_cons {w : World} {E : Emb} {x : AV} {v : Value} {args : List AV} {vs : List Value} (h : RepA w E x v) (t : ∀ (k : Nat) (x : AV), args[k]? = some x → RepA w E x (vs.getD k undef)) :
    ∀ (k : Nat) (y : AV), (x :: args)[k]? = some y → RepA w E y ((v :: vs).getD k undef)
  | 0, y, hy => by simp only [List.getElem?_cons_zero, Option.some.injEq] at hy; subst hy; exact h
  | k + 1, y, hy => t k y (by simpa using hy)
theorem rep_int {w : World} {E : Emb} {k : IntKind} (a : Int) : RepA w E (.cv (.sc (.int k a))) (.int k a) := .cv _ _ (.sc _ rfl)
theorem rep_aggL {w : World} {E : Emb} {cs : List AV} {vs : Array Value} (hs : vs.toList.length = cs.length) (h : ∀ (k : Nat) (x : AV), cs[k]? = some x → RepA w E x (vs.toList.getD k undef)) : RepA w E (.agg cs) (.agg vs) :=
  .agg _ _ (by simpa using hs) fun k x hx => by have := h k x hx; simpa [List.getD, Array.getD_eq_getD_getElem?] using this
/-- a slice of ints that came in -/
structure SlAt (w : World) (v : Value) (l : List Int) : Prop where
  rep : RepA w (rowE w) (sl l none) v
  len : l.length ≤ 9223372036854775807
section
variable {H : Type} {enc : TypeId × Value → H} {w : World} {base : Nat} {spare : Nat → Bool} {held : Bool}
theorem int_of {t n : Nat} {k : IntKind} {cs : List Value} {x : DataW H × List MemPlace} (ht : Tryz.prog.underlying t = some (.int k)) (h : DataW.trod enc Tryz.prog w base spare held n t cs = some x) : ∃ a, cs = [.int k a] ∧ (Lit.int k a).wf = true := by
  obtain ⟨a, e, _, hw⟩ := DataW.trod_int ht h
  exact ⟨a, e, hw⟩
theorem cells_int : Tryz.prog.cellsOf 3 = 1 := by kernel_rfl
theorem open_sl {n : Nat} {cs : List Value} {x : DataW H × List MemPlace} (h : DataW.trod enc Tryz.prog w base spare held n 23 cs = some x) : ∃ v l, cs = [v] ∧ SlAt w v l := by
  rcases open_ints Tryz.underlying23 Tryz.underlying3 cells_int h with ⟨rfl, _⟩ | ⟨a, len, cap, zs, rfl, hb, hl, hm, hz, hx, hc, _⟩
  · refine ⟨_, [], rfl, .cv _ _ (.ro _ _ _ none 0 0 (fun _ _ => undef) rfl (Nat.le_refl _) (fun x hx => by cases hx) (by simp [rows]) (by simp [rows]) (by simp [rows])), by simp⟩
  · have hlz : len ≤ zs.length := by rw [hz]; split <;> omega
    have hsp : ∀ i, i < zs.length → (a.add i).spot = none := fun i hi => World.cell?_spot (hc i hi)
    refine ⟨_, zs.take len, rfl, .cv _ _ (.ro _ _ _ (some a) len cap (fun i _ => .int .i64 (zs.getD i 0)) (by simp [rows]; omega) hl (fun x hx => by cases hx) (fun e he => ?_) (fun i e he => ?_) (fun i e k x he hx => ?_)), ?_⟩
    · simp only [rows, List.mem_map] at he
      obtain ⟨_, _, rfl⟩ := he; rfl
    · have hi : i < (zs.take len).length := by have := (List.getElem?_eq_some_iff.1 he).1; simpa [rows] using this
      have hi2 : i < zs.length := by simp at hi; omega
      rw [rows_get hi] at he
      cases he
      have h0 := hc 0 (by omega)
      have hspa : a.spot = none := by have := hsp 0 (by omega); simpa [Addr.add] using this
      have hlt : a.block < w.heap.size := by
        have : (a.add 0).block < w.heap.size := Nat.lt_of_not_le fun hle => by
          simp [World.cell?, Array.getElem?_eq_none hle] at h0
        simpa [Addr.add] using this
      refine ⟨a, rfl, hspa, hlt, fun k x hx => ?_⟩
      cases k with
      | zero =>
        have := hc i hi2
        obtain ⟨b, off, sp⟩ := a
        have hspa : sp = none := hspa
        subst hspa
        simpa [cellAt, Go.WideShapes.add_plain] using this
      | succ k => simp at hx
    · have hi : i < (zs.take len).length := by have := (List.getElem?_eq_some_iff.1 he).1; simpa [rows] using this
      have hi2 : i < zs.length := by simp at hi; omega
      rw [rows_get hi] at he
      cases he
      cases k with
      | zero =>
        simp at hx
        subst hx
        rw [show zs.getD i 0 = zs[i] by simp [List.getD, hi2]]
        exact .sc (.int .i64 _) rfl
      | succ k => simp at hx
    · have : cap ≤ 9223372036854775807 := hm
      simp; omega
end
/-! the package-level variable that is laid -/
theorem own : ownKnob Tryz.prog.godebug = none := by kernel_rfl
theorem laidOut : laidOutB Tryz.prog = true := by kernel_rfl
theorem g_et : Tryz.prog.globalNamed "errors.errorType" = some 1 := by kernel_rfl
theorem g_rt : (Tryz.prog.cutTypes.find? (·.1 == "internal/reflectlite.rtype")).map (·.2) = some 214 := by kernel_rfl
theorem g_row : ((List.range Tryz.prog.types.size).filter fun t => Tryz.prog.rowNamed t [101, 114, 114, 111, 114]) = [139] := by kernel_rfl
abbrev laid1 : List (String × DataW Unit) := [("errors.errorType", Rows.laid_errors_errorType)]
theorem handle_of_laid {W : World} (h : laidMetH Tryz.prog laid1 W) : W.cell? ⟨1, 0, none⟩ = some (.iface 214 (.agg #[.pointer (some ⟨2, 139, none⟩)])) := by
  have h' : laidMet Tryz.prog [] W ∧ handlesMet Tryz.prog laid1 W := h
  obtain ⟨name, u, ty, e1, e2, e3, e4, e5⟩ := h'.2 _ (List.mem_singleton.2 rfl)
  have en : name = [101, 114, 114, 111, 114] := (Option.some.inj e1).symm
  subst en
  obtain rfl := Option.some.inj (g_rt.symm.trans e2)
  have hm : ty ∈ (List.range Tryz.prog.types.size).filter fun t => Tryz.prog.rowNamed t [101, 114, 114, 111, 114] := List.mem_filter.2 ⟨List.mem_range.2 e3, e4⟩
  rw [g_row] at hm
  obtain rfl := List.mem_singleton.1 hm
  have hh : typeHandle Tryz.prog 139 = .pointer (some ⟨2, 139, none⟩) := by kernel_rfl
  rw [hh] at e5
  simpa using World.var?_cell g_et e5 0
theorem gl_of_laid {W : World} (h : laidMetH Tryz.prog laid1 W) : Gl gl (rowE W) W := by
  have hc := handle_of_laid h
  have hlt := cell_lt hc
  intro p hp
  simp only [gl, List.mem_singleton] at hp
  subst hp
  exact ⟨hlt, hlt, hc⟩
noncomputable def laidWorld (os : Os) : World :=
  let w0 := World.holding Tryz.prog os ⟨#[], #[], []⟩
  { w0 with heap := w0.heap.modify 1 fun
      | .cells _ t frozen => .cells #[.iface 214 (.agg #[.pointer (some ⟨2, 139, none⟩)])] t frozen
      | o => o }
theorem laidWorld_met (os : Os) (args : Array Value) : laidMetH Tryz.prog laid1 ((laidWorld os).forCall (fun _ _ => 0) ⟨#[], args, []⟩).memory :=
  laidMetH_of_parts (laidMet_nil _ _) (by kernel_rfl)
/-! from good runs to the row -/
theorem card_of {p : Pinned} {s : OpenSpec} {c : OpenClaim} (kinds : List LaidKind) (har : Bool × String)
    (hc : c.holds p s) (hw : c.wfByText s = true) (htie : c.laidByTextAt .later p kinds true)
    (hst : c.start = .entering) (hnb : c.noBlocks = false ∧ c.again = false) (hm : p.checked.prog.mainIs = some (har.1, har.2.toList))
    (hl : ∀ f fn, p.checked.prog.funcNamed c.func = some f → p.checked.prog.funcs[f]? = some fn → true = p.checked.prog.looks [] ∧ ∀ (j : Nat) t, fn.params[j]? = some t → p.checked.prog.wantsStandIn t = false)
    (hg : true = c.goesBy p.checked.prog) :
    Claim7.holds p (.plain s) { stood := { row := c, standIns := [], harness := har, looks := true }, kinds := [], alts := [], goes := true, laidByText := true, laidKinds := kinds, laidTests := true, laidLooks := .later } := by
  have h6 : ∀ r : OpenClaim, Claim7.isSixth { stood := { row := r, standIns := [], harness := har, looks := true }, kinds := [] } = false := fun r => by simp [Claim7.isSixth]
  exact ⟨Claim7.tied_new_at .later kinds true (Claim7.new_of_sixth hc har true hst hnb hm (h6 c) hl) hw, (fun D hD => by cases hD), htie, (fun h => by cases h), hg⟩
end Go.Proofs.YtdjoodbidcncaaaGreatDoor.AW
