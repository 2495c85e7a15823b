/-
  DERIVED. GIVEN WITH THE SEED: THE CARDS: each row of YtdjoodbidcncaaaGreatDoorRows.lean that lists a variable, with what it lists TIED to the program's text (the seventh form; the later family's looks); each row that meets fmt, with fmt's text TOLD by the authors' own Lean function (tested against real Go, not proved from fmt's source: count such statements apart). THE CARD IS WHAT COUNTS. Prove the row's statement (the work); the ties are given (YtdjoodbidcncaaaGreatDoorTie.lean); close each card by the builder's one call (the guide's Derived/Test/ToyasCard.lean, 'card_holds'). Laid BY PROGRAM, IN A SANDBOX (cutbox-door.mjs). By AI agents, Wed Nov 11 2026. No macro, syntax, notation, axiom, sorry.
-/
import Derived.Test.YtdjoodbidcncaaaGreatDoorRows
import GoSem.ClaimSeven
namespace Go.Proofs.YtdjoodbidcncaaaGreatDoor
namespace Rows

/-- THE TIED CARD OF 'laws.FnColOnce'. -/
def fnColOnceCard : Claim7 := { stood := { row := fnColOnceRow, standIns := [], harness := (true, "9da48b30a293137a10117fcde4b8020b86b15005ba62a16696262dd62860cf52"), looks := true }, kinds := [], alts := [], goes := true, laidByText := true, laidKinds := [.handle], laidTests := true, laidLooks := .later }
def FnColOnceCardSaid : Prop := Claim7.holds Tryz.pinned (.plain (OpenSpec.ofChange fnColOnceSpec)) fnColOnceCard

/-- THE TIED CARD OF 'laws.FnColTake'. -/
def fnColTakeCard : Claim7 := { stood := { row := fnColTakeRow, standIns := [], harness := (true, "9da48b30a293137a10117fcde4b8020b86b15005ba62a16696262dd62860cf52"), looks := true }, kinds := [], alts := [], goes := true, laidByText := true, laidKinds := [.handle], laidTests := true, laidLooks := .later }
def FnColTakeCardSaid : Prop := Claim7.holds Tryz.pinned (.plain (OpenSpec.ofChange fnColTakeSpec)) fnColTakeCard

/-- THE TIED CARD OF 'laws.FnColOrder'. -/
def fnColOrderCard : Claim7 := { stood := { row := fnColOrderRow, standIns := [], harness := (true, "9da48b30a293137a10117fcde4b8020b86b15005ba62a16696262dd62860cf52"), looks := true }, kinds := [], alts := [], goes := true, laidByText := true, laidKinds := [.handle, .sentinel], laidTests := true, laidLooks := .later }
def FnColOrderCardSaid : Prop := Claim7.holds Tryz.pinned (.plain (OpenSpec.ofChange fnColOrderSpec)) fnColOrderCard

/-- THE TIED CARD OF 'laws.FnColFull'. -/
def fnColFullCard : Claim7 := { stood := { row := fnColFullRow, standIns := [], harness := (true, "9da48b30a293137a10117fcde4b8020b86b15005ba62a16696262dd62860cf52"), looks := true }, kinds := [], alts := [], goes := true, laidByText := true, laidKinds := [.handle, .sentinel], laidTests := true, laidLooks := .later }
def FnColFullCardSaid : Prop := Claim7.holds Tryz.pinned (.plain (OpenSpec.ofChange fnColFullSpec)) fnColFullCard

/-- THE TIED CARD OF 'laws.FnExactBatchTake'. -/
def fnExactBatchTakeCard : Claim7 := { stood := { row := fnExactBatchTakeRow, standIns := [], harness := (true, "9da48b30a293137a10117fcde4b8020b86b15005ba62a16696262dd62860cf52"), looks := true }, kinds := [], alts := [], goes := true, laidByText := true, laidKinds := [.handle], laidTests := true, laidLooks := .later }
def FnExactBatchTakeCardSaid : Prop := Claim7.holds Tryz.pinned (.plain (OpenSpec.ofChange fnExactBatchTakeSpec)) fnExactBatchTakeCard

/-- THE TIED CARD OF 'laws.FnBatchTake'. -/
def fnBatchTakeCard : Claim7 := { stood := { row := fnBatchTakeRow, standIns := [], harness := (true, "9da48b30a293137a10117fcde4b8020b86b15005ba62a16696262dd62860cf52"), looks := true }, kinds := [], alts := [], goes := true, laidByText := true, laidKinds := [.handle], laidTests := true, laidLooks := .later }
def FnBatchTakeCardSaid : Prop := Claim7.holds Tryz.pinned (.plain (OpenSpec.ofChange fnBatchTakeSpec)) fnBatchTakeCard

/-- THE TIED CARD OF 'laws.FnBatchWrong'. -/
def fnBatchWrongCard : Claim7 := { stood := { row := fnBatchWrongRow, standIns := [], harness := (true, "9da48b30a293137a10117fcde4b8020b86b15005ba62a16696262dd62860cf52"), looks := true }, kinds := [], alts := [], goes := true, laidByText := true, laidKinds := [.handle], laidTests := true, laidLooks := .later }
def FnBatchWrongCardSaid : Prop := Claim7.holds Tryz.pinned (.plain (OpenSpec.ofChange fnBatchWrongSpec)) fnBatchWrongCard

/-- THE TIED CARD OF 'laws.FnBatchOnce'. -/
def fnBatchOnceCard : Claim7 := { stood := { row := fnBatchOnceRow, standIns := [], harness := (true, "9da48b30a293137a10117fcde4b8020b86b15005ba62a16696262dd62860cf52"), looks := true }, kinds := [], alts := [], goes := true, laidByText := true, laidKinds := [.handle], laidTests := true, laidLooks := .later }
def FnBatchOnceCardSaid : Prop := Claim7.holds Tryz.pinned (.plain (OpenSpec.ofChange fnBatchOnceSpec)) fnBatchOnceCard

/-- THE TIED CARD OF 'laws.FnBatchSum'. -/
def fnBatchSumCard : Claim7 := { stood := { row := fnBatchSumRow, standIns := [], harness := (true, "9da48b30a293137a10117fcde4b8020b86b15005ba62a16696262dd62860cf52"), looks := true }, kinds := [], alts := [], goes := true, laidByText := true, laidKinds := [.handle], laidTests := true, laidLooks := .later }
def FnBatchSumCardSaid : Prop := Claim7.holds Tryz.pinned (.plain (OpenSpec.ofChange fnBatchSumSpec)) fnBatchSumCard

/-- THE TIED CARD OF 'laws.FnBatchOrder'. -/
def fnBatchOrderCard : Claim7 := { stood := { row := fnBatchOrderRow, standIns := [], harness := (true, "9da48b30a293137a10117fcde4b8020b86b15005ba62a16696262dd62860cf52"), looks := true }, kinds := [], alts := [], goes := true, laidByText := true, laidKinds := [.handle, .sentinel], laidTests := true, laidLooks := .later }
def FnBatchOrderCardSaid : Prop := Claim7.holds Tryz.pinned (.plain (OpenSpec.ofChange fnBatchOrderSpec)) fnBatchOrderCard

/-- THE TIED CARD OF 'laws.FnBatchSome'. -/
def fnBatchSomeCard : Claim7 := { stood := { row := fnBatchSomeRow, standIns := [], harness := (true, "9da48b30a293137a10117fcde4b8020b86b15005ba62a16696262dd62860cf52"), looks := true }, kinds := [], alts := [], goes := true, laidByText := true, laidKinds := [.handle, .sentinel], laidTests := true, laidLooks := .later }
def FnBatchSomeCardSaid : Prop := Claim7.holds Tryz.pinned (.plain (OpenSpec.ofChange fnBatchSomeSpec)) fnBatchSomeCard

/-- THE TIED CARD OF 'laws.FnTotalRight'. -/
def fnTotalRightCard : Claim7 := { stood := { row := fnTotalRightRow, standIns := [], harness := (true, "9da48b30a293137a10117fcde4b8020b86b15005ba62a16696262dd62860cf52"), looks := true }, kinds := [], alts := [], goes := true, laidByText := true, laidKinds := [.handle, .sentinel], laidTests := true, laidLooks := .later }
def FnTotalRightCardSaid : Prop := Claim7.holds Tryz.pinned (.plain (OpenSpec.ofChange fnTotalRightSpec)) fnTotalRightCard

/-- THE SECOND FORM's CARD OF 'laws.FnColOnce'. -/
def fnColOnceUptoCard : Claim7 := { stood := { row := fnColOnceUptoRow, standIns := [], harness := (true, "9da48b30a293137a10117fcde4b8020b86b15005ba62a16696262dd62860cf52"), looks := true }, kinds := [], alts := [], goes := true, laidByText := true, laidKinds := [.handle], laidTests := true, laidLooks := .later }
def FnColOnceUptoCardSaid : Prop := Claim7.holds Tryz.pinned (.plain (OpenSpec.upto fnColOnceSpec)) fnColOnceUptoCard

/-- THE SECOND FORM's CARD OF 'laws.FnColTake'. -/
def fnColTakeUptoCard : Claim7 := { stood := { row := fnColTakeUptoRow, standIns := [], harness := (true, "9da48b30a293137a10117fcde4b8020b86b15005ba62a16696262dd62860cf52"), looks := true }, kinds := [], alts := [], goes := true, laidByText := true, laidKinds := [.handle], laidTests := true, laidLooks := .later }
def FnColTakeUptoCardSaid : Prop := Claim7.holds Tryz.pinned (.plain (OpenSpec.upto fnColTakeSpec)) fnColTakeUptoCard

/-- THE SECOND FORM's CARD OF 'laws.FnColOrder'. -/
def fnColOrderUptoCard : Claim7 := { stood := { row := fnColOrderUptoRow, standIns := [], harness := (true, "9da48b30a293137a10117fcde4b8020b86b15005ba62a16696262dd62860cf52"), looks := true }, kinds := [], alts := [], goes := true, laidByText := true, laidKinds := [.handle, .sentinel], laidTests := true, laidLooks := .later }
def FnColOrderUptoCardSaid : Prop := Claim7.holds Tryz.pinned (.plain (OpenSpec.upto fnColOrderSpec)) fnColOrderUptoCard

/-- THE SECOND FORM's CARD OF 'laws.FnColFull'. -/
def fnColFullUptoCard : Claim7 := { stood := { row := fnColFullUptoRow, standIns := [], harness := (true, "9da48b30a293137a10117fcde4b8020b86b15005ba62a16696262dd62860cf52"), looks := true }, kinds := [], alts := [], goes := true, laidByText := true, laidKinds := [.handle, .sentinel], laidTests := true, laidLooks := .later }
def FnColFullUptoCardSaid : Prop := Claim7.holds Tryz.pinned (.plain (OpenSpec.upto fnColFullSpec)) fnColFullUptoCard
end Rows
end Go.Proofs.YtdjoodbidcncaaaGreatDoor
