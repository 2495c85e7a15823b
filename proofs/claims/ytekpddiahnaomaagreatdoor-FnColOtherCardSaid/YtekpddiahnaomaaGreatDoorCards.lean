/-
  DERIVED. GIVEN WITH THE SEED: THE CARDS: each row of YtekpddiahnaomaaGreatDoorRows.lean that lists a variable, with what it lists TIED to the program's text (the seventh form; the later family's looks); each row that meets fmt, with fmt's text TOLD by the authors' own Lean function (tested against real Go, not proved from fmt's source: count such statements apart). THE CARD IS WHAT COUNTS. Prove the row's statement (the work); the ties are given (YtekpddiahnaomaaGreatDoorTie.lean); close each card by the builder's one call (the guide's Derived/Test/ToyasCard.lean, 'card_holds'). Laid BY PROGRAM, IN A SANDBOX (cutbox-door.mjs). By AI agents, Wed Nov 11 2026. No macro, syntax, notation, axiom, sorry.
-/
import Derived.Test.YtekpddiahnaomaaGreatDoorRows
import GoSem.ClaimSeven
namespace Go.Proofs.YtekpddiahnaomaaGreatDoor
namespace Rows

/-- THE TIED CARD OF 'laws.FnExactColTake'. -/
def fnExactColTakeCard : Claim7 := { stood := { row := fnExactColTakeRow, standIns := [], harness := (true, "4d9f17e13c55a2fc7d2df532c43dec6209a24695606d8e94ca11b776b91188f4"), looks := true }, kinds := [], alts := [], goes := true, laidByText := true, laidKinds := [.handle], laidTests := true, laidLooks := .later }
def FnExactColTakeCardSaid : Prop := Claim7.holds Tryz.pinned (.plain (OpenSpec.ofChange fnExactColTakeSpec)) fnExactColTakeCard

/-- THE TIED CARD OF 'laws.FnColFull'. -/
def fnColFullCard : Claim7 := { stood := { row := fnColFullRow, standIns := [], harness := (true, "4d9f17e13c55a2fc7d2df532c43dec6209a24695606d8e94ca11b776b91188f4"), looks := true }, kinds := [], alts := [], goes := true, laidByText := true, laidKinds := [.handle, .sentinel], laidTests := true, laidLooks := .later }
def FnColFullCardSaid : Prop := Claim7.holds Tryz.pinned (.plain (OpenSpec.ofChange fnColFullSpec)) fnColFullCard

/-- THE TIED CARD OF 'laws.FnColOnce'. -/
def fnColOnceCard : Claim7 := { stood := { row := fnColOnceRow, standIns := [], harness := (true, "4d9f17e13c55a2fc7d2df532c43dec6209a24695606d8e94ca11b776b91188f4"), looks := true }, kinds := [], alts := [], goes := true, laidByText := true, laidKinds := [.handle], laidTests := true, laidLooks := .later }
def FnColOnceCardSaid : Prop := Claim7.holds Tryz.pinned (.plain (OpenSpec.ofChange fnColOnceSpec)) fnColOnceCard

/-- THE TIED CARD OF 'laws.FnColOther'. -/
def fnColOtherCard : Claim7 := { stood := { row := fnColOtherRow, standIns := [], harness := (true, "4d9f17e13c55a2fc7d2df532c43dec6209a24695606d8e94ca11b776b91188f4"), looks := true }, kinds := [], alts := [], goes := true, laidByText := true, laidKinds := [.handle], laidTests := true, laidLooks := .later }
def FnColOtherCardSaid : Prop := Claim7.holds Tryz.pinned (.plain (OpenSpec.ofChange fnColOtherSpec)) fnColOtherCard

/-- THE TIED CARD OF 'laws.FnColTake'. -/
def fnColTakeCard : Claim7 := { stood := { row := fnColTakeRow, standIns := [], harness := (true, "4d9f17e13c55a2fc7d2df532c43dec6209a24695606d8e94ca11b776b91188f4"), looks := true }, kinds := [], alts := [], goes := true, laidByText := true, laidKinds := [.handle], laidTests := true, laidLooks := .later }
def FnColTakeCardSaid : Prop := Claim7.holds Tryz.pinned (.plain (OpenSpec.ofChange fnColTakeSpec)) fnColTakeCard

/-- THE TIED CARD OF 'laws.FnExactBatchTake'. -/
def fnExactBatchTakeCard : Claim7 := { stood := { row := fnExactBatchTakeRow, standIns := [], harness := (true, "4d9f17e13c55a2fc7d2df532c43dec6209a24695606d8e94ca11b776b91188f4"), looks := true }, kinds := [], alts := [], goes := true, laidByText := true, laidKinds := [.handle], laidTests := true, laidLooks := .later }
def FnExactBatchTakeCardSaid : Prop := Claim7.holds Tryz.pinned (.plain (OpenSpec.ofChange fnExactBatchTakeSpec)) fnExactBatchTakeCard

/-- THE TIED CARD OF 'laws.FnBatchTake'. -/
def fnBatchTakeCard : Claim7 := { stood := { row := fnBatchTakeRow, standIns := [], harness := (true, "4d9f17e13c55a2fc7d2df532c43dec6209a24695606d8e94ca11b776b91188f4"), looks := true }, kinds := [], alts := [], goes := true, laidByText := true, laidKinds := [.handle], laidTests := true, laidLooks := .later }
def FnBatchTakeCardSaid : Prop := Claim7.holds Tryz.pinned (.plain (OpenSpec.ofChange fnBatchTakeSpec)) fnBatchTakeCard

/-- THE TIED CARD OF 'laws.FnBatchWrong'. -/
def fnBatchWrongCard : Claim7 := { stood := { row := fnBatchWrongRow, standIns := [], harness := (true, "4d9f17e13c55a2fc7d2df532c43dec6209a24695606d8e94ca11b776b91188f4"), looks := true }, kinds := [], alts := [], goes := true, laidByText := true, laidKinds := [.handle], laidTests := true, laidLooks := .later }
def FnBatchWrongCardSaid : Prop := Claim7.holds Tryz.pinned (.plain (OpenSpec.ofChange fnBatchWrongSpec)) fnBatchWrongCard

/-- THE TIED CARD OF 'laws.FnBatchOnce'. -/
def fnBatchOnceCard : Claim7 := { stood := { row := fnBatchOnceRow, standIns := [], harness := (true, "4d9f17e13c55a2fc7d2df532c43dec6209a24695606d8e94ca11b776b91188f4"), looks := true }, kinds := [], alts := [], goes := true, laidByText := true, laidKinds := [.handle], laidTests := true, laidLooks := .later }
def FnBatchOnceCardSaid : Prop := Claim7.holds Tryz.pinned (.plain (OpenSpec.ofChange fnBatchOnceSpec)) fnBatchOnceCard

/-- THE SECOND FORM's CARD OF 'laws.FnExactColTake'. -/
def fnExactColTakeUptoCard : Claim7 := { stood := { row := fnExactColTakeUptoRow, standIns := [], harness := (true, "4d9f17e13c55a2fc7d2df532c43dec6209a24695606d8e94ca11b776b91188f4"), looks := true }, kinds := [], alts := [], goes := true, laidByText := true, laidKinds := [.handle], laidTests := true, laidLooks := .later }
def FnExactColTakeUptoCardSaid : Prop := Claim7.holds Tryz.pinned (.plain (OpenSpec.upto fnExactColTakeSpec)) fnExactColTakeUptoCard

/-- THE SECOND FORM's CARD OF 'laws.FnColFull'. -/
def fnColFullUptoCard : Claim7 := { stood := { row := fnColFullUptoRow, standIns := [], harness := (true, "4d9f17e13c55a2fc7d2df532c43dec6209a24695606d8e94ca11b776b91188f4"), looks := true }, kinds := [], alts := [], goes := true, laidByText := true, laidKinds := [.handle, .sentinel], laidTests := true, laidLooks := .later }
def FnColFullUptoCardSaid : Prop := Claim7.holds Tryz.pinned (.plain (OpenSpec.upto fnColFullSpec)) fnColFullUptoCard

/-- THE SECOND FORM's CARD OF 'laws.FnColOnce'. -/
def fnColOnceUptoCard : Claim7 := { stood := { row := fnColOnceUptoRow, standIns := [], harness := (true, "4d9f17e13c55a2fc7d2df532c43dec6209a24695606d8e94ca11b776b91188f4"), looks := true }, kinds := [], alts := [], goes := true, laidByText := true, laidKinds := [.handle], laidTests := true, laidLooks := .later }
def FnColOnceUptoCardSaid : Prop := Claim7.holds Tryz.pinned (.plain (OpenSpec.upto fnColOnceSpec)) fnColOnceUptoCard

/-- THE SECOND FORM's CARD OF 'laws.FnColOther'. -/
def fnColOtherUptoCard : Claim7 := { stood := { row := fnColOtherUptoRow, standIns := [], harness := (true, "4d9f17e13c55a2fc7d2df532c43dec6209a24695606d8e94ca11b776b91188f4"), looks := true }, kinds := [], alts := [], goes := true, laidByText := true, laidKinds := [.handle], laidTests := true, laidLooks := .later }
def FnColOtherUptoCardSaid : Prop := Claim7.holds Tryz.pinned (.plain (OpenSpec.upto fnColOtherSpec)) fnColOtherUptoCard

/-- THE SECOND FORM's CARD OF 'laws.FnColTake'. -/
def fnColTakeUptoCard : Claim7 := { stood := { row := fnColTakeUptoRow, standIns := [], harness := (true, "4d9f17e13c55a2fc7d2df532c43dec6209a24695606d8e94ca11b776b91188f4"), looks := true }, kinds := [], alts := [], goes := true, laidByText := true, laidKinds := [.handle], laidTests := true, laidLooks := .later }
def FnColTakeUptoCardSaid : Prop := Claim7.holds Tryz.pinned (.plain (OpenSpec.upto fnColTakeSpec)) fnColTakeUptoCard
end Rows
end Go.Proofs.YtekpddiahnaomaaGreatDoor
