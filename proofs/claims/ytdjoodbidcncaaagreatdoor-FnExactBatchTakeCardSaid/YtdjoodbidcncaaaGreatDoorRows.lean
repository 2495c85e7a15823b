/-
  NARROWER THAN 'FOR EVERY INPUT', by the rows' own cells (each row's printed sentence says how): FnColOnce: laid · FnColTake: laid · FnColOrder: ifaces, laid · FnColFull: ifaces, laid · FnExactBatchTake: calm, laid · FnBatchTake: calm, laid · FnBatchWrong: calm, laid · FnBatchOnce: calm, laid · FnBatchSum: calm, laid · FnBatchOrder: ifaces, calm, laid · FnBatchSome: ifaces, calm, laid · FnTotalRight: ifaces, calm, laid.
  DERIVED. THE GIVEN ROWS OF THIS SEAT. 12 by the template 'for every input the law returns true; each argument reads behind the call as it read before'; 0 by the template 'total and deterministic' (their statements: YtdjoodbidcncaaaGreatDoorTotals.lean).
  GIVEN WITH THE SEED: the statements are not yours to turn. If you find one false, say at which input.
  Laid BY PROGRAM, IN A SANDBOX (cutbox-rows.mjs): the forced cells as the released guide's own fill.sh prints them over the translation 18b6e023833bc955… (all of the seat's roots in one cut). By AI agents, Wed Nov 11 2026. No macro, syntax, notation, axiom, sorry.
-/
import Derived.Test.YtdjoodbidcncaaaGreatDoorChecked
import GoSem.Claim
import GoSem.ClaimJoined
import GoSem.ClaimMapViews
import Derived.JoinedTies
import Derived.KernelRfl
namespace Go.Proofs.YtdjoodbidcncaaaGreatDoor
/- THE CELL 'sum', in the pinned program and in every row, IS THE sha256 OF THE DUMP (.gsa) THAT YtdjoodbidcncaaaGreatDoorProg.lean LOADS. Nothing in Lean hashes anything: it is a label: what it is worth is what the hold of that sum in a sandbox is worth. -/
noncomputable def Tryz.pinned : Pinned := { name := "ytdjoodbidcncaaagreatdoor", sum := "18b6e023833bc95552320a62ad67d1b89ee4601c141a893ac6326ec7d5dcf696", checked := Tryz.checked }
namespace Rows
def none {H : Type} : Left H := { results := [], args := [] }

/- WHAT THE LISTED PACKAGE-LEVEL VARIABLES READ AS WHEN THE CALL BEGINS. Each datum BY PROGRAM (the guide's laid-datum.mjs) off the statement by which the dump's own 'gosem.cut.vars' lays the variable. In a bare row this is a premise. The card (YtdjoodbidcncaaaGreatDoorCards.lean) ties it to the program's text. -/
def laid_errors_errorType {H : Type} : DataW H := .iface "internal/reflectlite.rtype" (.agg [.ptr (.lit (.string [101, 114, 114, 111, 114]))])
def laid_loop_example_scrutineer_impl_errProof {H : Type} : DataW H := .iface "*errors.errorString" (.ptr (.agg [.lit (.string [112, 114, 111, 111, 102, 32, 105, 115, 32, 110, 111, 116, 32, 119, 101, 108, 108, 32, 102, 111, 114, 109, 101, 100])]))

/-- 'laws.FnColOnce': WHATEVER THE INPUT: true; the input reads as it did. -/
def fnColOnceSpec : ChangeSpec := { name := "fnColOnce", fn := fun _ => fun
  | [d] => { results := [.lit (.bool true)], args := [d] }
  | _ => none }
def fnColOnceRow : OpenClaim := { program := "ytdjoodbidcncaaagreatdoor", sum := "18b6e023833bc95552320a62ad67d1b89ee4601c141a893ac6326ec7d5dcf696", func := "loop.example/scrutineer/laws.FnColOnce", spec := "fnColOnce", inPlace := ["internal/reflectlite.ValueOf", "(internal/reflectlite.Value).Type", "(internal/reflectlite.Value).IsNil", "internal/reflectlite.TypeOf", "(internal/reflectlite.Value).Elem", "(internal/reflectlite.Value).Set", "(*sync.WaitGroup).Add", "internal/race.ReleaseMerge", "internal/race.Disable", "internal/race.Enable", "internal/synctest.IsInBubble", "internal/synctest.Associate[sync.WaitGroup]", "sync.fatal", "sync/atomic.OrUint64", "sync/atomic.AddUint64", "internal/race.Read", "sync/atomic.LoadUint64", "sync/atomic.StoreUint64", "internal/synctest.Disassociate[sync.WaitGroup]", "sync.runtime_Semrelease", "(*sync.WaitGroup).Done", "(*sync.WaitGroup).Wait", "internal/race.Acquire", "internal/synctest.IsAssociated[sync.WaitGroup]", "sync/atomic.CompareAndSwapUint64", "internal/race.Write", "sync.runtime_SemacquireWaitGroup"], unfollowed := true, recurses := true, named := ["errors.errorType"], leaving := true, apart := false, laid := [("errors.errorType", laid_errors_errorType)] }
def FnColOnceSaid : Prop := fnColOnceRow.holds Tryz.pinned (OpenSpec.ofChange fnColOnceSpec)

/-- ITS FALSE NEIGHBOUR: 'it returns false'. Refute it at one input. -/
def fnColOnceWrong : ChangeSpec := { name := "fnColOnce", fn := fun _ => fun
  | [d] => { results := [.lit (.bool false)], args := [d] }
  | _ => none }
def FnColOnceWrongFalsely : Prop := fnColOnceRow.holds Tryz.pinned (OpenSpec.ofChange fnColOnceWrong)

/-- 'laws.FnColTake': WHATEVER THE INPUT: true; the input reads as it did. -/
def fnColTakeSpec : ChangeSpec := { name := "fnColTake", fn := fun _ => fun
  | [d] => { results := [.lit (.bool true)], args := [d] }
  | _ => none }
def fnColTakeRow : OpenClaim := { program := "ytdjoodbidcncaaagreatdoor", sum := "18b6e023833bc95552320a62ad67d1b89ee4601c141a893ac6326ec7d5dcf696", func := "loop.example/scrutineer/laws.FnColTake", spec := "fnColTake", inPlace := ["internal/reflectlite.ValueOf", "(internal/reflectlite.Value).Type", "(internal/reflectlite.Value).IsNil", "internal/reflectlite.TypeOf", "(internal/reflectlite.Value).Elem", "(internal/reflectlite.Value).Set", "(*sync.WaitGroup).Add", "internal/race.ReleaseMerge", "internal/race.Disable", "internal/race.Enable", "internal/synctest.IsInBubble", "internal/synctest.Associate[sync.WaitGroup]", "sync.fatal", "sync/atomic.OrUint64", "sync/atomic.AddUint64", "internal/race.Read", "sync/atomic.LoadUint64", "sync/atomic.StoreUint64", "internal/synctest.Disassociate[sync.WaitGroup]", "sync.runtime_Semrelease", "(*sync.WaitGroup).Done", "(*sync.WaitGroup).Wait", "internal/race.Acquire", "internal/synctest.IsAssociated[sync.WaitGroup]", "sync/atomic.CompareAndSwapUint64", "internal/race.Write", "sync.runtime_SemacquireWaitGroup"], unfollowed := true, recurses := true, named := ["errors.errorType"], leaving := true, apart := false, laid := [("errors.errorType", laid_errors_errorType)] }
def FnColTakeSaid : Prop := fnColTakeRow.holds Tryz.pinned (OpenSpec.ofChange fnColTakeSpec)

/-- ITS FALSE NEIGHBOUR: 'it returns false'. Refute it at one input. -/
def fnColTakeWrong : ChangeSpec := { name := "fnColTake", fn := fun _ => fun
  | [d] => { results := [.lit (.bool false)], args := [d] }
  | _ => none }
def FnColTakeWrongFalsely : Prop := fnColTakeRow.holds Tryz.pinned (OpenSpec.ofChange fnColTakeWrong)

/-- 'laws.FnColOrder': WHATEVER THE INPUT: true; the input reads as it did. -/
def fnColOrderSpec : ChangeSpec := { name := "fnColOrder", vars := ["loop.example/scrutineer/impl.errProof"], fn := fun _ => fun
  | [d1, d2, g1] => { results := [.lit (.bool true)], args := [d1, d2], vars := [g1] }
  | _ => none }
def fnColOrderRow : OpenClaim := { program := "ytdjoodbidcncaaagreatdoor", sum := "18b6e023833bc95552320a62ad67d1b89ee4601c141a893ac6326ec7d5dcf696", func := "loop.example/scrutineer/laws.FnColOrder", spec := "fnColOrder", inPlace := ["internal/reflectlite.ValueOf", "(internal/reflectlite.Value).Type", "(internal/reflectlite.Value).IsNil", "internal/reflectlite.TypeOf", "(internal/reflectlite.Value).Elem", "(internal/reflectlite.Value).Set", "(*sync.WaitGroup).Add", "internal/race.ReleaseMerge", "internal/race.Disable", "internal/race.Enable", "internal/synctest.IsInBubble", "internal/synctest.Associate[sync.WaitGroup]", "sync.fatal", "sync/atomic.OrUint64", "sync/atomic.AddUint64", "internal/race.Read", "sync/atomic.LoadUint64", "sync/atomic.StoreUint64", "internal/synctest.Disassociate[sync.WaitGroup]", "sync.runtime_Semrelease", "(*sync.WaitGroup).Done", "(*sync.WaitGroup).Wait", "internal/race.Acquire", "internal/synctest.IsAssociated[sync.WaitGroup]", "sync/atomic.CompareAndSwapUint64", "internal/race.Write", "sync.runtime_SemacquireWaitGroup"], unfollowed := true, recurses := true, named := ["errors.errorType", "loop.example/scrutineer/impl.errProof"], ifaces := true, leaving := true, apart := false, laid := [("errors.errorType", laid_errors_errorType), ("loop.example/scrutineer/impl.errProof", laid_loop_example_scrutineer_impl_errProof)] }
def FnColOrderSaid : Prop := fnColOrderRow.holds Tryz.pinned (OpenSpec.ofChange fnColOrderSpec)

/-- ITS FALSE NEIGHBOUR: 'it returns false'. Refute it at one input. -/
def fnColOrderWrong : ChangeSpec := { name := "fnColOrder", vars := ["loop.example/scrutineer/impl.errProof"], fn := fun _ => fun
  | [d1, d2, g1] => { results := [.lit (.bool false)], args := [d1, d2], vars := [g1] }
  | _ => none }
def FnColOrderWrongFalsely : Prop := fnColOrderRow.holds Tryz.pinned (OpenSpec.ofChange fnColOrderWrong)

/-- 'laws.FnColFull': WHATEVER THE INPUT: true; the input reads as it did. -/
def fnColFullSpec : ChangeSpec := { name := "fnColFull", vars := ["loop.example/scrutineer/impl.errProof"], fn := fun _ => fun
  | [d1, d2, g1] => { results := [.lit (.bool true)], args := [d1, d2], vars := [g1] }
  | _ => none }
def fnColFullRow : OpenClaim := { program := "ytdjoodbidcncaaagreatdoor", sum := "18b6e023833bc95552320a62ad67d1b89ee4601c141a893ac6326ec7d5dcf696", func := "loop.example/scrutineer/laws.FnColFull", spec := "fnColFull", inPlace := ["internal/reflectlite.TypeOf", "(*sync.WaitGroup).Add", "internal/race.ReleaseMerge", "internal/race.Disable", "internal/race.Enable", "internal/synctest.IsInBubble", "internal/synctest.Associate[sync.WaitGroup]", "sync.fatal", "sync/atomic.OrUint64", "sync/atomic.AddUint64", "internal/race.Read", "sync/atomic.LoadUint64", "sync/atomic.StoreUint64", "internal/synctest.Disassociate[sync.WaitGroup]", "sync.runtime_Semrelease", "(*sync.WaitGroup).Done", "(*sync.WaitGroup).Wait", "internal/race.Acquire", "internal/synctest.IsAssociated[sync.WaitGroup]", "sync/atomic.CompareAndSwapUint64", "internal/race.Write", "sync.runtime_SemacquireWaitGroup", "internal/reflectlite.ValueOf", "(internal/reflectlite.Value).Type", "(internal/reflectlite.Value).IsNil", "(internal/reflectlite.Value).Elem", "(internal/reflectlite.Value).Set"], unfollowed := true, recurses := true, named := ["loop.example/scrutineer/impl.errProof", "errors.errorType"], ifaces := true, leaving := true, apart := false, laid := [("errors.errorType", laid_errors_errorType), ("loop.example/scrutineer/impl.errProof", laid_loop_example_scrutineer_impl_errProof)] }
def FnColFullSaid : Prop := fnColFullRow.holds Tryz.pinned (OpenSpec.ofChange fnColFullSpec)

/-- ITS FALSE NEIGHBOUR: 'it returns false'. Refute it at one input. -/
def fnColFullWrong : ChangeSpec := { name := "fnColFull", vars := ["loop.example/scrutineer/impl.errProof"], fn := fun _ => fun
  | [d1, d2, g1] => { results := [.lit (.bool false)], args := [d1, d2], vars := [g1] }
  | _ => none }
def FnColFullWrongFalsely : Prop := fnColFullRow.holds Tryz.pinned (OpenSpec.ofChange fnColFullWrong)

/-- 'laws.FnExactBatchTake': WHATEVER THE INPUT: true; the input reads as it did. -/
def fnExactBatchTakeSpec : ChangeSpec := { name := "fnExactBatchTake", fn := fun _ => fun
  | [d1, d2, d3, d4, d5] => { results := [.lit (.bool true)], args := [d1, d2, d3, d4, d5] }
  | _ => none }
def fnExactBatchTakeRow : OpenClaim := { program := "ytdjoodbidcncaaagreatdoor", sum := "18b6e023833bc95552320a62ad67d1b89ee4601c141a893ac6326ec7d5dcf696", func := "loop.example/scrutineer/laws.FnExactBatchTake", spec := "fnExactBatchTake", inPlace := ["internal/reflectlite.ValueOf", "(internal/reflectlite.Value).Type", "(internal/reflectlite.Value).IsNil", "internal/reflectlite.TypeOf", "(internal/reflectlite.Value).Elem", "(internal/reflectlite.Value).Set", "(*internal/sync.Mutex).Lock", "internal/race.Disable", "sync/atomic.CompareAndSwapInt32", "internal/race.Enable", "internal/race.Acquire", "(*internal/sync.Mutex).lockSlow", "internal/sync.runtime_canSpin", "internal/sync.runtime_doSpin", "internal/sync.throw", "internal/sync.runtime_nanotime", "internal/sync.runtime_SemacquireMutex", "sync/atomic.AddInt32", "(*internal/sync.Mutex).Unlock", "internal/race.ReleaseMerge", "(*internal/sync.Mutex).unlockSlow", "internal/sync.fatal", "internal/sync.runtime_Semrelease", "(*sync.WaitGroup).Add", "internal/synctest.IsInBubble", "internal/synctest.Associate[sync.WaitGroup]", "sync.fatal", "sync/atomic.OrUint64", "sync/atomic.AddUint64", "internal/race.Read", "sync/atomic.LoadUint64", "sync/atomic.StoreUint64", "internal/synctest.Disassociate[sync.WaitGroup]", "sync.runtime_Semrelease", "(*sync.WaitGroup).Done", "(*sync.WaitGroup).Wait", "internal/synctest.IsAssociated[sync.WaitGroup]", "sync/atomic.CompareAndSwapUint64", "internal/race.Write", "sync.runtime_SemacquireWaitGroup"], unfollowed := true, recurses := true, named := ["errors.errorType"], leaving := true, apart := false, calm := true, outside := [.timePasses], laid := [("errors.errorType", laid_errors_errorType)] }
def FnExactBatchTakeSaid : Prop := fnExactBatchTakeRow.holds Tryz.pinned (OpenSpec.ofChange fnExactBatchTakeSpec)

/-- ITS FALSE NEIGHBOUR: 'it returns false'. Refute it at one input. -/
def fnExactBatchTakeWrong : ChangeSpec := { name := "fnExactBatchTake", fn := fun _ => fun
  | [d1, d2, d3, d4, d5] => { results := [.lit (.bool false)], args := [d1, d2, d3, d4, d5] }
  | _ => none }
def FnExactBatchTakeWrongFalsely : Prop := fnExactBatchTakeRow.holds Tryz.pinned (OpenSpec.ofChange fnExactBatchTakeWrong)

/-- 'laws.FnBatchTake': WHATEVER THE INPUT: true; the input reads as it did. -/
def fnBatchTakeSpec : ChangeSpec := { name := "fnBatchTake", fn := fun _ => fun
  | [d] => { results := [.lit (.bool true)], args := [d] }
  | _ => none }
def fnBatchTakeRow : OpenClaim := { program := "ytdjoodbidcncaaagreatdoor", sum := "18b6e023833bc95552320a62ad67d1b89ee4601c141a893ac6326ec7d5dcf696", func := "loop.example/scrutineer/laws.FnBatchTake", spec := "fnBatchTake", inPlace := ["internal/reflectlite.ValueOf", "(internal/reflectlite.Value).Type", "(internal/reflectlite.Value).IsNil", "internal/reflectlite.TypeOf", "(internal/reflectlite.Value).Elem", "(internal/reflectlite.Value).Set", "(*internal/sync.Mutex).Lock", "internal/race.Disable", "sync/atomic.CompareAndSwapInt32", "internal/race.Enable", "internal/race.Acquire", "(*internal/sync.Mutex).lockSlow", "internal/sync.runtime_canSpin", "internal/sync.runtime_doSpin", "internal/sync.throw", "internal/sync.runtime_nanotime", "internal/sync.runtime_SemacquireMutex", "sync/atomic.AddInt32", "(*internal/sync.Mutex).Unlock", "internal/race.ReleaseMerge", "(*internal/sync.Mutex).unlockSlow", "internal/sync.fatal", "internal/sync.runtime_Semrelease", "(*sync.WaitGroup).Add", "internal/synctest.IsInBubble", "internal/synctest.Associate[sync.WaitGroup]", "sync.fatal", "sync/atomic.OrUint64", "sync/atomic.AddUint64", "internal/race.Read", "sync/atomic.LoadUint64", "sync/atomic.StoreUint64", "internal/synctest.Disassociate[sync.WaitGroup]", "sync.runtime_Semrelease", "(*sync.WaitGroup).Done", "(*sync.WaitGroup).Wait", "internal/synctest.IsAssociated[sync.WaitGroup]", "sync/atomic.CompareAndSwapUint64", "internal/race.Write", "sync.runtime_SemacquireWaitGroup"], unfollowed := true, recurses := true, named := ["errors.errorType"], leaving := true, apart := false, calm := true, outside := [.timePasses], laid := [("errors.errorType", laid_errors_errorType)] }
def FnBatchTakeSaid : Prop := fnBatchTakeRow.holds Tryz.pinned (OpenSpec.ofChange fnBatchTakeSpec)

/-- ITS FALSE NEIGHBOUR: 'it returns false'. Refute it at one input. -/
def fnBatchTakeWrong : ChangeSpec := { name := "fnBatchTake", fn := fun _ => fun
  | [d] => { results := [.lit (.bool false)], args := [d] }
  | _ => none }
def FnBatchTakeWrongFalsely : Prop := fnBatchTakeRow.holds Tryz.pinned (OpenSpec.ofChange fnBatchTakeWrong)

/-- 'laws.FnBatchWrong': WHATEVER THE INPUT: true; the input reads as it did. -/
def fnBatchWrongSpec : ChangeSpec := { name := "fnBatchWrong", fn := fun _ => fun
  | [d] => { results := [.lit (.bool true)], args := [d] }
  | _ => none }
def fnBatchWrongRow : OpenClaim := { program := "ytdjoodbidcncaaagreatdoor", sum := "18b6e023833bc95552320a62ad67d1b89ee4601c141a893ac6326ec7d5dcf696", func := "loop.example/scrutineer/laws.FnBatchWrong", spec := "fnBatchWrong", inPlace := ["internal/reflectlite.ValueOf", "(internal/reflectlite.Value).Type", "(internal/reflectlite.Value).IsNil", "internal/reflectlite.TypeOf", "(internal/reflectlite.Value).Elem", "(internal/reflectlite.Value).Set", "(*internal/sync.Mutex).Lock", "internal/race.Disable", "sync/atomic.CompareAndSwapInt32", "internal/race.Enable", "internal/race.Acquire", "(*internal/sync.Mutex).lockSlow", "internal/sync.runtime_canSpin", "internal/sync.runtime_doSpin", "internal/sync.throw", "internal/sync.runtime_nanotime", "internal/sync.runtime_SemacquireMutex", "sync/atomic.AddInt32", "(*internal/sync.Mutex).Unlock", "internal/race.ReleaseMerge", "(*internal/sync.Mutex).unlockSlow", "internal/sync.fatal", "internal/sync.runtime_Semrelease", "(*sync.WaitGroup).Add", "internal/synctest.IsInBubble", "internal/synctest.Associate[sync.WaitGroup]", "sync.fatal", "sync/atomic.OrUint64", "sync/atomic.AddUint64", "internal/race.Read", "sync/atomic.LoadUint64", "sync/atomic.StoreUint64", "internal/synctest.Disassociate[sync.WaitGroup]", "sync.runtime_Semrelease", "(*sync.WaitGroup).Done", "(*sync.WaitGroup).Wait", "internal/synctest.IsAssociated[sync.WaitGroup]", "sync/atomic.CompareAndSwapUint64", "internal/race.Write", "sync.runtime_SemacquireWaitGroup"], unfollowed := true, recurses := true, named := ["errors.errorType"], leaving := true, apart := false, calm := true, outside := [.timePasses], laid := [("errors.errorType", laid_errors_errorType)] }
def FnBatchWrongSaid : Prop := fnBatchWrongRow.holds Tryz.pinned (OpenSpec.ofChange fnBatchWrongSpec)

/-- ITS FALSE NEIGHBOUR: 'it returns false'. Refute it at one input. -/
def fnBatchWrongWrong : ChangeSpec := { name := "fnBatchWrong", fn := fun _ => fun
  | [d] => { results := [.lit (.bool false)], args := [d] }
  | _ => none }
def FnBatchWrongWrongFalsely : Prop := fnBatchWrongRow.holds Tryz.pinned (OpenSpec.ofChange fnBatchWrongWrong)

/-- 'laws.FnBatchOnce': WHATEVER THE INPUT: true; the input reads as it did. -/
def fnBatchOnceSpec : ChangeSpec := { name := "fnBatchOnce", fn := fun _ => fun
  | [d1, d2] => { results := [.lit (.bool true)], args := [d1, d2] }
  | _ => none }
def fnBatchOnceRow : OpenClaim := { program := "ytdjoodbidcncaaagreatdoor", sum := "18b6e023833bc95552320a62ad67d1b89ee4601c141a893ac6326ec7d5dcf696", func := "loop.example/scrutineer/laws.FnBatchOnce", spec := "fnBatchOnce", inPlace := ["internal/reflectlite.ValueOf", "(internal/reflectlite.Value).Type", "(internal/reflectlite.Value).IsNil", "internal/reflectlite.TypeOf", "(internal/reflectlite.Value).Elem", "(internal/reflectlite.Value).Set", "(*internal/sync.Mutex).Lock", "internal/race.Disable", "sync/atomic.CompareAndSwapInt32", "internal/race.Enable", "internal/race.Acquire", "(*internal/sync.Mutex).lockSlow", "internal/sync.runtime_canSpin", "internal/sync.runtime_doSpin", "internal/sync.throw", "internal/sync.runtime_nanotime", "internal/sync.runtime_SemacquireMutex", "sync/atomic.AddInt32", "(*internal/sync.Mutex).Unlock", "internal/race.ReleaseMerge", "(*internal/sync.Mutex).unlockSlow", "internal/sync.fatal", "internal/sync.runtime_Semrelease", "(*sync.WaitGroup).Add", "internal/synctest.IsInBubble", "internal/synctest.Associate[sync.WaitGroup]", "sync.fatal", "sync/atomic.OrUint64", "sync/atomic.AddUint64", "internal/race.Read", "sync/atomic.LoadUint64", "sync/atomic.StoreUint64", "internal/synctest.Disassociate[sync.WaitGroup]", "sync.runtime_Semrelease", "(*sync.WaitGroup).Done", "(*sync.WaitGroup).Wait", "internal/synctest.IsAssociated[sync.WaitGroup]", "sync/atomic.CompareAndSwapUint64", "internal/race.Write", "sync.runtime_SemacquireWaitGroup"], unfollowed := true, recurses := true, named := ["errors.errorType"], leaving := true, apart := false, calm := true, outside := [.timePasses], laid := [("errors.errorType", laid_errors_errorType)] }
def FnBatchOnceSaid : Prop := fnBatchOnceRow.holds Tryz.pinned (OpenSpec.ofChange fnBatchOnceSpec)

/-- ITS FALSE NEIGHBOUR: 'it returns false'. Refute it at one input. -/
def fnBatchOnceWrong : ChangeSpec := { name := "fnBatchOnce", fn := fun _ => fun
  | [d1, d2] => { results := [.lit (.bool false)], args := [d1, d2] }
  | _ => none }
def FnBatchOnceWrongFalsely : Prop := fnBatchOnceRow.holds Tryz.pinned (OpenSpec.ofChange fnBatchOnceWrong)

/-- 'laws.FnBatchSum': WHATEVER THE INPUT: true; the input reads as it did. -/
def fnBatchSumSpec : ChangeSpec := { name := "fnBatchSum", fn := fun _ => fun
  | [d] => { results := [.lit (.bool true)], args := [d] }
  | _ => none }
def fnBatchSumRow : OpenClaim := { program := "ytdjoodbidcncaaagreatdoor", sum := "18b6e023833bc95552320a62ad67d1b89ee4601c141a893ac6326ec7d5dcf696", func := "loop.example/scrutineer/laws.FnBatchSum", spec := "fnBatchSum", inPlace := ["internal/reflectlite.ValueOf", "(internal/reflectlite.Value).Type", "(internal/reflectlite.Value).IsNil", "internal/reflectlite.TypeOf", "(internal/reflectlite.Value).Elem", "(internal/reflectlite.Value).Set", "(*internal/sync.Mutex).Lock", "internal/race.Disable", "sync/atomic.CompareAndSwapInt32", "internal/race.Enable", "internal/race.Acquire", "(*internal/sync.Mutex).lockSlow", "internal/sync.runtime_canSpin", "internal/sync.runtime_doSpin", "internal/sync.throw", "internal/sync.runtime_nanotime", "internal/sync.runtime_SemacquireMutex", "sync/atomic.AddInt32", "(*internal/sync.Mutex).Unlock", "internal/race.ReleaseMerge", "(*internal/sync.Mutex).unlockSlow", "internal/sync.fatal", "internal/sync.runtime_Semrelease", "(*sync.WaitGroup).Add", "internal/synctest.IsInBubble", "internal/synctest.Associate[sync.WaitGroup]", "sync.fatal", "sync/atomic.OrUint64", "sync/atomic.AddUint64", "internal/race.Read", "sync/atomic.LoadUint64", "sync/atomic.StoreUint64", "internal/synctest.Disassociate[sync.WaitGroup]", "sync.runtime_Semrelease", "(*sync.WaitGroup).Done", "(*sync.WaitGroup).Wait", "internal/synctest.IsAssociated[sync.WaitGroup]", "sync/atomic.CompareAndSwapUint64", "internal/race.Write", "sync.runtime_SemacquireWaitGroup"], unfollowed := true, recurses := true, named := ["errors.errorType"], leaving := true, apart := false, calm := true, outside := [.timePasses], laid := [("errors.errorType", laid_errors_errorType)] }
def FnBatchSumSaid : Prop := fnBatchSumRow.holds Tryz.pinned (OpenSpec.ofChange fnBatchSumSpec)

/-- ITS FALSE NEIGHBOUR: 'it returns false'. Refute it at one input. -/
def fnBatchSumWrong : ChangeSpec := { name := "fnBatchSum", fn := fun _ => fun
  | [d] => { results := [.lit (.bool false)], args := [d] }
  | _ => none }
def FnBatchSumWrongFalsely : Prop := fnBatchSumRow.holds Tryz.pinned (OpenSpec.ofChange fnBatchSumWrong)

/-- 'laws.FnBatchOrder': WHATEVER THE INPUT: true; the input reads as it did. -/
def fnBatchOrderSpec : ChangeSpec := { name := "fnBatchOrder", vars := ["loop.example/scrutineer/impl.errProof"], fn := fun _ => fun
  | [d1, d2, g1] => { results := [.lit (.bool true)], args := [d1, d2], vars := [g1] }
  | _ => none }
def fnBatchOrderRow : OpenClaim := { program := "ytdjoodbidcncaaagreatdoor", sum := "18b6e023833bc95552320a62ad67d1b89ee4601c141a893ac6326ec7d5dcf696", func := "loop.example/scrutineer/laws.FnBatchOrder", spec := "fnBatchOrder", inPlace := ["internal/reflectlite.ValueOf", "(internal/reflectlite.Value).Type", "(internal/reflectlite.Value).IsNil", "internal/reflectlite.TypeOf", "(internal/reflectlite.Value).Elem", "(internal/reflectlite.Value).Set", "(*internal/sync.Mutex).Lock", "internal/race.Disable", "sync/atomic.CompareAndSwapInt32", "internal/race.Enable", "internal/race.Acquire", "(*internal/sync.Mutex).lockSlow", "internal/sync.runtime_canSpin", "internal/sync.runtime_doSpin", "internal/sync.throw", "internal/sync.runtime_nanotime", "internal/sync.runtime_SemacquireMutex", "sync/atomic.AddInt32", "(*internal/sync.Mutex).Unlock", "internal/race.ReleaseMerge", "(*internal/sync.Mutex).unlockSlow", "internal/sync.fatal", "internal/sync.runtime_Semrelease", "(*sync.WaitGroup).Add", "internal/synctest.IsInBubble", "internal/synctest.Associate[sync.WaitGroup]", "sync.fatal", "sync/atomic.OrUint64", "sync/atomic.AddUint64", "internal/race.Read", "sync/atomic.LoadUint64", "sync/atomic.StoreUint64", "internal/synctest.Disassociate[sync.WaitGroup]", "sync.runtime_Semrelease", "(*sync.WaitGroup).Done", "(*sync.WaitGroup).Wait", "internal/synctest.IsAssociated[sync.WaitGroup]", "sync/atomic.CompareAndSwapUint64", "internal/race.Write", "sync.runtime_SemacquireWaitGroup"], unfollowed := true, recurses := true, named := ["errors.errorType", "loop.example/scrutineer/impl.errProof"], ifaces := true, leaving := true, apart := false, calm := true, outside := [.timePasses], laid := [("errors.errorType", laid_errors_errorType), ("loop.example/scrutineer/impl.errProof", laid_loop_example_scrutineer_impl_errProof)] }
def FnBatchOrderSaid : Prop := fnBatchOrderRow.holds Tryz.pinned (OpenSpec.ofChange fnBatchOrderSpec)

/-- ITS FALSE NEIGHBOUR: 'it returns false'. Refute it at one input. -/
def fnBatchOrderWrong : ChangeSpec := { name := "fnBatchOrder", vars := ["loop.example/scrutineer/impl.errProof"], fn := fun _ => fun
  | [d1, d2, g1] => { results := [.lit (.bool false)], args := [d1, d2], vars := [g1] }
  | _ => none }
def FnBatchOrderWrongFalsely : Prop := fnBatchOrderRow.holds Tryz.pinned (OpenSpec.ofChange fnBatchOrderWrong)

/-- 'laws.FnBatchSome': WHATEVER THE INPUT: true; the input reads as it did. -/
def fnBatchSomeSpec : ChangeSpec := { name := "fnBatchSome", vars := ["loop.example/scrutineer/impl.errProof"], fn := fun _ => fun
  | [d1, d2, g1] => { results := [.lit (.bool true)], args := [d1, d2], vars := [g1] }
  | _ => none }
def fnBatchSomeRow : OpenClaim := { program := "ytdjoodbidcncaaagreatdoor", sum := "18b6e023833bc95552320a62ad67d1b89ee4601c141a893ac6326ec7d5dcf696", func := "loop.example/scrutineer/laws.FnBatchSome", spec := "fnBatchSome", inPlace := ["internal/reflectlite.TypeOf", "(*sync.WaitGroup).Add", "internal/race.ReleaseMerge", "internal/race.Disable", "internal/race.Enable", "internal/synctest.IsInBubble", "internal/synctest.Associate[sync.WaitGroup]", "sync.fatal", "sync/atomic.OrUint64", "sync/atomic.AddUint64", "internal/race.Read", "sync/atomic.LoadUint64", "sync/atomic.StoreUint64", "internal/synctest.Disassociate[sync.WaitGroup]", "sync.runtime_Semrelease", "(*sync.WaitGroup).Done", "(*sync.WaitGroup).Wait", "internal/race.Acquire", "internal/synctest.IsAssociated[sync.WaitGroup]", "sync/atomic.CompareAndSwapUint64", "internal/race.Write", "sync.runtime_SemacquireWaitGroup", "internal/reflectlite.ValueOf", "(internal/reflectlite.Value).Type", "(internal/reflectlite.Value).IsNil", "(internal/reflectlite.Value).Elem", "(internal/reflectlite.Value).Set", "(*internal/sync.Mutex).Lock", "sync/atomic.CompareAndSwapInt32", "(*internal/sync.Mutex).lockSlow", "internal/sync.runtime_canSpin", "internal/sync.runtime_doSpin", "internal/sync.throw", "internal/sync.runtime_nanotime", "internal/sync.runtime_SemacquireMutex", "sync/atomic.AddInt32", "(*internal/sync.Mutex).Unlock", "(*internal/sync.Mutex).unlockSlow", "internal/sync.fatal", "internal/sync.runtime_Semrelease"], unfollowed := true, recurses := true, named := ["loop.example/scrutineer/impl.errProof", "errors.errorType"], ifaces := true, leaving := true, apart := false, calm := true, outside := [.timePasses], laid := [("errors.errorType", laid_errors_errorType), ("loop.example/scrutineer/impl.errProof", laid_loop_example_scrutineer_impl_errProof)] }
def FnBatchSomeSaid : Prop := fnBatchSomeRow.holds Tryz.pinned (OpenSpec.ofChange fnBatchSomeSpec)

/-- ITS FALSE NEIGHBOUR: 'it returns false'. Refute it at one input. -/
def fnBatchSomeWrong : ChangeSpec := { name := "fnBatchSome", vars := ["loop.example/scrutineer/impl.errProof"], fn := fun _ => fun
  | [d1, d2, g1] => { results := [.lit (.bool false)], args := [d1, d2], vars := [g1] }
  | _ => none }
def FnBatchSomeWrongFalsely : Prop := fnBatchSomeRow.holds Tryz.pinned (OpenSpec.ofChange fnBatchSomeWrong)

/-- 'laws.FnTotalRight': WHATEVER THE INPUT: true; the input reads as it did. -/
def fnTotalRightSpec : ChangeSpec := { name := "fnTotalRight", vars := ["loop.example/scrutineer/impl.errProof"], fn := fun _ => fun
  | [d1, d2, g1] => { results := [.lit (.bool true)], args := [d1, d2], vars := [g1] }
  | _ => none }
def fnTotalRightRow : OpenClaim := { program := "ytdjoodbidcncaaagreatdoor", sum := "18b6e023833bc95552320a62ad67d1b89ee4601c141a893ac6326ec7d5dcf696", func := "loop.example/scrutineer/laws.FnTotalRight", spec := "fnTotalRight", inPlace := ["internal/reflectlite.TypeOf", "(*sync.WaitGroup).Add", "internal/race.ReleaseMerge", "internal/race.Disable", "internal/race.Enable", "internal/synctest.IsInBubble", "internal/synctest.Associate[sync.WaitGroup]", "sync.fatal", "sync/atomic.OrUint64", "sync/atomic.AddUint64", "internal/race.Read", "sync/atomic.LoadUint64", "sync/atomic.StoreUint64", "internal/synctest.Disassociate[sync.WaitGroup]", "sync.runtime_Semrelease", "(*sync.WaitGroup).Done", "(*sync.WaitGroup).Wait", "internal/race.Acquire", "internal/synctest.IsAssociated[sync.WaitGroup]", "sync/atomic.CompareAndSwapUint64", "internal/race.Write", "sync.runtime_SemacquireWaitGroup", "internal/reflectlite.ValueOf", "(internal/reflectlite.Value).Type", "(internal/reflectlite.Value).IsNil", "(internal/reflectlite.Value).Elem", "(internal/reflectlite.Value).Set", "(*internal/sync.Mutex).Lock", "sync/atomic.CompareAndSwapInt32", "(*internal/sync.Mutex).lockSlow", "internal/sync.runtime_canSpin", "internal/sync.runtime_doSpin", "internal/sync.throw", "internal/sync.runtime_nanotime", "internal/sync.runtime_SemacquireMutex", "sync/atomic.AddInt32", "(*internal/sync.Mutex).Unlock", "(*internal/sync.Mutex).unlockSlow", "internal/sync.fatal", "internal/sync.runtime_Semrelease"], unfollowed := true, recurses := true, named := ["loop.example/scrutineer/impl.errProof", "errors.errorType"], ifaces := true, leaving := true, apart := false, calm := true, outside := [.timePasses], laid := [("errors.errorType", laid_errors_errorType), ("loop.example/scrutineer/impl.errProof", laid_loop_example_scrutineer_impl_errProof)] }
def FnTotalRightSaid : Prop := fnTotalRightRow.holds Tryz.pinned (OpenSpec.ofChange fnTotalRightSpec)

/-- ITS FALSE NEIGHBOUR: 'it returns false'. Refute it at one input. -/
def fnTotalRightWrong : ChangeSpec := { name := "fnTotalRight", vars := ["loop.example/scrutineer/impl.errProof"], fn := fun _ => fun
  | [d1, d2, g1] => { results := [.lit (.bool false)], args := [d1, d2], vars := [g1] }
  | _ => none }
def FnTotalRightWrongFalsely : Prop := fnTotalRightRow.holds Tryz.pinned (OpenSpec.ofChange fnTotalRightWrong)

/- THE SECOND FORM. 'bulk': how many values and letters a reading holds, each counted each time it is reached (what is shared counts as often as it is met; a slice's spare places count too). A statement '..UptoSaid' is the law's where the arguments, and the package variables that the reading takes, are together of bulk at most 1048576: NARROWER than '..Said'. Prove '..Said' where nothing that the law and all that it calls make is longer than what came in: it says more and counts as full. Else prove '..UptoSaid'. A law counts once. -/
mutual
def uptoBulk {H : Type} : DataW H → Nat
  | .lit (.string bytes) => bytes.length + 1
  | .lit _ => 1
  | .nil => 1
  | .ptr d => uptoBulk d + 1
  | .slice elems spare => uptoBulkAll elems + uptoBulkAll spare + 1
  | .agg parts => uptoBulkAll parts + 1
  | .iface _ d => uptoBulk d + 1
  | .map entries => uptoBulkEntries entries + 1
  | .held _ => 1
def uptoBulkAll {H : Type} : List (DataW H) → Nat
  | [] => 0
  | d :: r => uptoBulk d + uptoBulkAll r
def uptoBulkEntries {H : Type} : List (Lit × DataW H) → Nat
  | [] => 0
  | x :: r => uptoBulkEntry x + uptoBulkEntries r
def uptoBulkEntry {H : Type} : Lit × DataW H → Nat
  | (.string bytes, d) => bytes.length + uptoBulk d + 1
  | (_, d) => uptoBulk d + 1
 end
def uptoSmall : (H : Type) → List (DataW H) → Bool := fun _ ds => decide (uptoBulkAll ds ≤ 1048576)
def OpenSpec.upto (s : _root_.Go.ChangeSpec) : _root_.Go.OpenSpec := { _root_.Go.OpenSpec.ofChange s with cond := some uptoSmall }

/-- 'laws.FnColOnce', WHERE WHAT IT READS IS OF BULK AT MOST 1048576: true; the input reads as it did. -/
def fnColOnceUptoRow : OpenClaim := { program := "ytdjoodbidcncaaagreatdoor", sum := "18b6e023833bc95552320a62ad67d1b89ee4601c141a893ac6326ec7d5dcf696", func := "loop.example/scrutineer/laws.FnColOnce", spec := "fnColOnce", inPlace := ["internal/reflectlite.ValueOf", "(internal/reflectlite.Value).Type", "(internal/reflectlite.Value).IsNil", "internal/reflectlite.TypeOf", "(internal/reflectlite.Value).Elem", "(internal/reflectlite.Value).Set", "(*sync.WaitGroup).Add", "internal/race.ReleaseMerge", "internal/race.Disable", "internal/race.Enable", "internal/synctest.IsInBubble", "internal/synctest.Associate[sync.WaitGroup]", "sync.fatal", "sync/atomic.OrUint64", "sync/atomic.AddUint64", "internal/race.Read", "sync/atomic.LoadUint64", "sync/atomic.StoreUint64", "internal/synctest.Disassociate[sync.WaitGroup]", "sync.runtime_Semrelease", "(*sync.WaitGroup).Done", "(*sync.WaitGroup).Wait", "internal/race.Acquire", "internal/synctest.IsAssociated[sync.WaitGroup]", "sync/atomic.CompareAndSwapUint64", "internal/race.Write", "sync.runtime_SemacquireWaitGroup"], unfollowed := true, recurses := true, named := ["errors.errorType"], leaving := true, apart := false, laid := [("errors.errorType", laid_errors_errorType)], narrowed := true }
def FnColOnceUptoSaid : Prop := fnColOnceUptoRow.holds Tryz.pinned (OpenSpec.upto fnColOnceSpec)

/-- 'laws.FnColTake', WHERE WHAT IT READS IS OF BULK AT MOST 1048576: true; the input reads as it did. -/
def fnColTakeUptoRow : OpenClaim := { program := "ytdjoodbidcncaaagreatdoor", sum := "18b6e023833bc95552320a62ad67d1b89ee4601c141a893ac6326ec7d5dcf696", func := "loop.example/scrutineer/laws.FnColTake", spec := "fnColTake", inPlace := ["internal/reflectlite.ValueOf", "(internal/reflectlite.Value).Type", "(internal/reflectlite.Value).IsNil", "internal/reflectlite.TypeOf", "(internal/reflectlite.Value).Elem", "(internal/reflectlite.Value).Set", "(*sync.WaitGroup).Add", "internal/race.ReleaseMerge", "internal/race.Disable", "internal/race.Enable", "internal/synctest.IsInBubble", "internal/synctest.Associate[sync.WaitGroup]", "sync.fatal", "sync/atomic.OrUint64", "sync/atomic.AddUint64", "internal/race.Read", "sync/atomic.LoadUint64", "sync/atomic.StoreUint64", "internal/synctest.Disassociate[sync.WaitGroup]", "sync.runtime_Semrelease", "(*sync.WaitGroup).Done", "(*sync.WaitGroup).Wait", "internal/race.Acquire", "internal/synctest.IsAssociated[sync.WaitGroup]", "sync/atomic.CompareAndSwapUint64", "internal/race.Write", "sync.runtime_SemacquireWaitGroup"], unfollowed := true, recurses := true, named := ["errors.errorType"], leaving := true, apart := false, laid := [("errors.errorType", laid_errors_errorType)], narrowed := true }
def FnColTakeUptoSaid : Prop := fnColTakeUptoRow.holds Tryz.pinned (OpenSpec.upto fnColTakeSpec)

/-- 'laws.FnColOrder', WHERE WHAT IT READS IS OF BULK AT MOST 1048576: true; the input reads as it did. -/
def fnColOrderUptoRow : OpenClaim := { program := "ytdjoodbidcncaaagreatdoor", sum := "18b6e023833bc95552320a62ad67d1b89ee4601c141a893ac6326ec7d5dcf696", func := "loop.example/scrutineer/laws.FnColOrder", spec := "fnColOrder", inPlace := ["internal/reflectlite.ValueOf", "(internal/reflectlite.Value).Type", "(internal/reflectlite.Value).IsNil", "internal/reflectlite.TypeOf", "(internal/reflectlite.Value).Elem", "(internal/reflectlite.Value).Set", "(*sync.WaitGroup).Add", "internal/race.ReleaseMerge", "internal/race.Disable", "internal/race.Enable", "internal/synctest.IsInBubble", "internal/synctest.Associate[sync.WaitGroup]", "sync.fatal", "sync/atomic.OrUint64", "sync/atomic.AddUint64", "internal/race.Read", "sync/atomic.LoadUint64", "sync/atomic.StoreUint64", "internal/synctest.Disassociate[sync.WaitGroup]", "sync.runtime_Semrelease", "(*sync.WaitGroup).Done", "(*sync.WaitGroup).Wait", "internal/race.Acquire", "internal/synctest.IsAssociated[sync.WaitGroup]", "sync/atomic.CompareAndSwapUint64", "internal/race.Write", "sync.runtime_SemacquireWaitGroup"], unfollowed := true, recurses := true, named := ["errors.errorType", "loop.example/scrutineer/impl.errProof"], ifaces := true, leaving := true, apart := false, laid := [("errors.errorType", laid_errors_errorType), ("loop.example/scrutineer/impl.errProof", laid_loop_example_scrutineer_impl_errProof)], narrowed := true }
def FnColOrderUptoSaid : Prop := fnColOrderUptoRow.holds Tryz.pinned (OpenSpec.upto fnColOrderSpec)

/-- 'laws.FnColFull', WHERE WHAT IT READS IS OF BULK AT MOST 1048576: true; the input reads as it did. -/
def fnColFullUptoRow : OpenClaim := { program := "ytdjoodbidcncaaagreatdoor", sum := "18b6e023833bc95552320a62ad67d1b89ee4601c141a893ac6326ec7d5dcf696", func := "loop.example/scrutineer/laws.FnColFull", spec := "fnColFull", inPlace := ["internal/reflectlite.TypeOf", "(*sync.WaitGroup).Add", "internal/race.ReleaseMerge", "internal/race.Disable", "internal/race.Enable", "internal/synctest.IsInBubble", "internal/synctest.Associate[sync.WaitGroup]", "sync.fatal", "sync/atomic.OrUint64", "sync/atomic.AddUint64", "internal/race.Read", "sync/atomic.LoadUint64", "sync/atomic.StoreUint64", "internal/synctest.Disassociate[sync.WaitGroup]", "sync.runtime_Semrelease", "(*sync.WaitGroup).Done", "(*sync.WaitGroup).Wait", "internal/race.Acquire", "internal/synctest.IsAssociated[sync.WaitGroup]", "sync/atomic.CompareAndSwapUint64", "internal/race.Write", "sync.runtime_SemacquireWaitGroup", "internal/reflectlite.ValueOf", "(internal/reflectlite.Value).Type", "(internal/reflectlite.Value).IsNil", "(internal/reflectlite.Value).Elem", "(internal/reflectlite.Value).Set"], unfollowed := true, recurses := true, named := ["loop.example/scrutineer/impl.errProof", "errors.errorType"], ifaces := true, leaving := true, apart := false, laid := [("errors.errorType", laid_errors_errorType), ("loop.example/scrutineer/impl.errProof", laid_loop_example_scrutineer_impl_errProof)], narrowed := true }
def FnColFullUptoSaid : Prop := fnColFullUptoRow.holds Tryz.pinned (OpenSpec.upto fnColFullSpec)

end Rows
end Go.Proofs.YtdjoodbidcncaaaGreatDoor
