/-
  No cell of these rows narrows 'for every input' (looked for: loops, veiled, ifaces, maps, wideKeys, modest, calm, conditions, laid).
  DERIVED. THE GIVEN ROWS OF THIS SEAT. 11 by the template 'for every input the law returns true; each argument reads behind the call as it read before'; 0 by the template 'total and deterministic' (their statements: YtdbfjgmehmbefaaTotals.lean).
  GIVEN WITH THE SEED: the statements are not yours to turn. If you find one false, say at which input.
  Laid BY PROGRAM, IN A SANDBOX (cutbox-rows.mjs): the forced cells as the released guide's own fill.sh prints them over the translation 602a3f473c431629… (all of the seat's roots in one cut). By AI agents, Wed Nov 11 2026. No macro, syntax, notation, axiom, sorry.
-/
import Derived.Test.YtdbfjgmehmbefaaChecked
import GoSem.Claim
import GoSem.ClaimJoined
import GoSem.ClaimMapViews
import Derived.JoinedTies
import Derived.KernelRfl
namespace Go.Proofs.Ytdbfjgmehmbefaa
/- THE CELL 'sum', in the pinned program and in every row, IS THE sha256 OF THE DUMP (.gsa) THAT YtdbfjgmehmbefaaProg.lean LOADS. Nothing in Lean hashes anything: it is a label: what it is worth is what the hold of that sum in a sandbox is worth. -/
noncomputable def Try.pinned : Pinned := { name := "ytdbfjgmehmbefaa", sum := "602a3f473c4316295f3c4de35e8f214a96e6f72da7f53aed1d6a4b6d38c98694", checked := Try.checked }
namespace Rows
def none {H : Type} : Left H := { results := [], args := [] }

/-- 'mummerlaw08.CoreWants': WHATEVER THE INPUT: true; the input reads as it did. -/
def coreWantsSpec : ChangeSpec := { name := "coreWants", fn := fun _ => fun
  | [d1, d2] => { results := [.lit (.bool true)], args := [d1, d2] }
  | _ => none }
def coreWantsRow : OpenClaim := { program := "ytdbfjgmehmbefaa", sum := "602a3f473c4316295f3c4de35e8f214a96e6f72da7f53aed1d6a4b6d38c98694", func := "mummer/mummerlaw08.CoreWants", spec := "coreWants", unfollowed := true, recurses := true, apart := false }
def CoreWantsSaid : Prop := coreWantsRow.holds Try.pinned (OpenSpec.ofChange coreWantsSpec)

/-- ITS FALSE NEIGHBOUR: 'it returns false'. Refute it at one input. -/
def coreWantsWrong : ChangeSpec := { name := "coreWants", fn := fun _ => fun
  | [d1, d2] => { results := [.lit (.bool false)], args := [d1, d2] }
  | _ => none }
def CoreWantsWrongFalsely : Prop := coreWantsRow.holds Try.pinned (OpenSpec.ofChange coreWantsWrong)

/-- 'mummerlaw08.CoreDoes': WHATEVER THE INPUT: true; the input reads as it did. -/
def coreDoesSpec : ChangeSpec := { name := "coreDoes", fn := fun _ => fun
  | [d1, d2, d3] => { results := [.lit (.bool true)], args := [d1, d2, d3] }
  | _ => none }
def coreDoesRow : OpenClaim := { program := "ytdbfjgmehmbefaa", sum := "602a3f473c4316295f3c4de35e8f214a96e6f72da7f53aed1d6a4b6d38c98694", func := "mummer/mummerlaw08.CoreDoes", spec := "coreDoes", unfollowed := true, recurses := true, apart := false }
def CoreDoesSaid : Prop := coreDoesRow.holds Try.pinned (OpenSpec.ofChange coreDoesSpec)

/-- ITS FALSE NEIGHBOUR: 'it returns false'. Refute it at one input. -/
def coreDoesWrong : ChangeSpec := { name := "coreDoes", fn := fun _ => fun
  | [d1, d2, d3] => { results := [.lit (.bool false)], args := [d1, d2, d3] }
  | _ => none }
def CoreDoesWrongFalsely : Prop := coreDoesRow.holds Try.pinned (OpenSpec.ofChange coreDoesWrong)

/-- 'mummerlaw08.CoreTwice': WHATEVER THE INPUT: true; the input reads as it did. -/
def coreTwiceSpec : ChangeSpec := { name := "coreTwice", fn := fun _ => fun
  | [d1, d2, d3] => { results := [.lit (.bool true)], args := [d1, d2, d3] }
  | _ => none }
def coreTwiceRow : OpenClaim := { program := "ytdbfjgmehmbefaa", sum := "602a3f473c4316295f3c4de35e8f214a96e6f72da7f53aed1d6a4b6d38c98694", func := "mummer/mummerlaw08.CoreTwice", spec := "coreTwice", unfollowed := true, recurses := true, apart := false }
def CoreTwiceSaid : Prop := coreTwiceRow.holds Try.pinned (OpenSpec.ofChange coreTwiceSpec)

/-- ITS FALSE NEIGHBOUR: 'it returns false'. Refute it at one input. -/
def coreTwiceWrong : ChangeSpec := { name := "coreTwice", fn := fun _ => fun
  | [d1, d2, d3] => { results := [.lit (.bool false)], args := [d1, d2, d3] }
  | _ => none }
def CoreTwiceWrongFalsely : Prop := coreTwiceRow.holds Try.pinned (OpenSpec.ofChange coreTwiceWrong)

/-- 'mummerlaw08.CoreNext': WHATEVER THE INPUT: true; the input reads as it did. -/
def coreNextSpec : ChangeSpec := { name := "coreNext", fn := fun _ => fun
  | [d1, d2, d3] => { results := [.lit (.bool true)], args := [d1, d2, d3] }
  | _ => none }
def coreNextRow : OpenClaim := { program := "ytdbfjgmehmbefaa", sum := "602a3f473c4316295f3c4de35e8f214a96e6f72da7f53aed1d6a4b6d38c98694", func := "mummer/mummerlaw08.CoreNext", spec := "coreNext", inPlace := ["sync/atomic.LoadUint32", "(*internal/sync.Mutex).Lock", "internal/race.Disable", "sync/atomic.CompareAndSwapInt32", "internal/race.Enable", "internal/race.Acquire", "(*internal/sync.Mutex).lockSlow", "internal/sync.runtime_canSpin", "internal/sync.runtime_doSpin", "internal/sync.throw", "internal/sync.runtime_nanotime", "internal/sync.runtime_SemacquireMutex", "sync/atomic.AddInt32", "(*internal/sync.Mutex).Unlock", "internal/race.ReleaseMerge", "(*internal/sync.Mutex).unlockSlow", "internal/sync.fatal", "internal/sync.runtime_Semrelease", "sync/atomic.StoreUint32"], unfollowed := true, recurses := true, apart := false }
def CoreNextSaid : Prop := coreNextRow.holds Try.pinned (OpenSpec.ofChange coreNextSpec)

/-- ITS FALSE NEIGHBOUR: 'it returns false'. Refute it at one input. -/
def coreNextWrong : ChangeSpec := { name := "coreNext", fn := fun _ => fun
  | [d1, d2, d3] => { results := [.lit (.bool false)], args := [d1, d2, d3] }
  | _ => none }
def CoreNextWrongFalsely : Prop := coreNextRow.holds Try.pinned (OpenSpec.ofChange coreNextWrong)

/-- 'mummerlaw08.CoreFails': WHATEVER THE INPUT: true; the input reads as it did. -/
def coreFailsSpec : ChangeSpec := { name := "coreFails", fn := fun _ => fun
  | [d1, d2, d3] => { results := [.lit (.bool true)], args := [d1, d2, d3] }
  | _ => none }
def coreFailsRow : OpenClaim := { program := "ytdbfjgmehmbefaa", sum := "602a3f473c4316295f3c4de35e8f214a96e6f72da7f53aed1d6a4b6d38c98694", func := "mummer/mummerlaw08.CoreFails", spec := "coreFails", inPlace := ["sync/atomic.LoadUint32", "(*internal/sync.Mutex).Lock", "internal/race.Disable", "sync/atomic.CompareAndSwapInt32", "internal/race.Enable", "internal/race.Acquire", "(*internal/sync.Mutex).lockSlow", "internal/sync.runtime_canSpin", "internal/sync.runtime_doSpin", "internal/sync.throw", "internal/sync.runtime_nanotime", "internal/sync.runtime_SemacquireMutex", "sync/atomic.AddInt32", "(*internal/sync.Mutex).Unlock", "internal/race.ReleaseMerge", "(*internal/sync.Mutex).unlockSlow", "internal/sync.fatal", "internal/sync.runtime_Semrelease", "sync/atomic.StoreUint32"], unfollowed := true, recurses := true, apart := false }
def CoreFailsSaid : Prop := coreFailsRow.holds Try.pinned (OpenSpec.ofChange coreFailsSpec)

/-- ITS FALSE NEIGHBOUR: 'it returns false'. Refute it at one input. -/
def coreFailsWrong : ChangeSpec := { name := "coreFails", fn := fun _ => fun
  | [d1, d2, d3] => { results := [.lit (.bool false)], args := [d1, d2, d3] }
  | _ => none }
def CoreFailsWrongFalsely : Prop := coreFailsRow.holds Try.pinned (OpenSpec.ofChange coreFailsWrong)

/-- 'mummerlaw08.CoreWrites': WHATEVER THE INPUT: true; the input reads as it did. -/
def coreWritesSpec : ChangeSpec := { name := "coreWrites", fn := fun _ => fun
  | [d1, d2, d3] => { results := [.lit (.bool true)], args := [d1, d2, d3] }
  | _ => none }
def coreWritesRow : OpenClaim := { program := "ytdbfjgmehmbefaa", sum := "602a3f473c4316295f3c4de35e8f214a96e6f72da7f53aed1d6a4b6d38c98694", func := "mummer/mummerlaw08.CoreWrites", spec := "coreWrites", inPlace := ["sync/atomic.LoadUint32", "(*internal/sync.Mutex).Lock", "internal/race.Disable", "sync/atomic.CompareAndSwapInt32", "internal/race.Enable", "internal/race.Acquire", "(*internal/sync.Mutex).lockSlow", "internal/sync.runtime_canSpin", "internal/sync.runtime_doSpin", "internal/sync.throw", "internal/sync.runtime_nanotime", "internal/sync.runtime_SemacquireMutex", "sync/atomic.AddInt32", "(*internal/sync.Mutex).Unlock", "internal/race.ReleaseMerge", "(*internal/sync.Mutex).unlockSlow", "internal/sync.fatal", "internal/sync.runtime_Semrelease", "sync/atomic.StoreUint32"], unfollowed := true, recurses := true, apart := false }
def CoreWritesSaid : Prop := coreWritesRow.holds Try.pinned (OpenSpec.ofChange coreWritesSpec)

/-- ITS FALSE NEIGHBOUR: 'it returns false'. Refute it at one input. -/
def coreWritesWrong : ChangeSpec := { name := "coreWrites", fn := fun _ => fun
  | [d1, d2, d3] => { results := [.lit (.bool false)], args := [d1, d2, d3] }
  | _ => none }
def CoreWritesWrongFalsely : Prop := coreWritesRow.holds Try.pinned (OpenSpec.ofChange coreWritesWrong)

/-- 'mummerlaw08.CoreReads': WHATEVER THE INPUT: true; the input reads as it did. -/
def coreReadsSpec : ChangeSpec := { name := "coreReads", fn := fun _ => fun
  | [d1, d2, d3] => { results := [.lit (.bool true)], args := [d1, d2, d3] }
  | _ => none }
def coreReadsRow : OpenClaim := { program := "ytdbfjgmehmbefaa", sum := "602a3f473c4316295f3c4de35e8f214a96e6f72da7f53aed1d6a4b6d38c98694", func := "mummer/mummerlaw08.CoreReads", spec := "coreReads", inPlace := ["sync/atomic.LoadUint32", "(*internal/sync.Mutex).Lock", "internal/race.Disable", "sync/atomic.CompareAndSwapInt32", "internal/race.Enable", "internal/race.Acquire", "(*internal/sync.Mutex).lockSlow", "internal/sync.runtime_canSpin", "internal/sync.runtime_doSpin", "internal/sync.throw", "internal/sync.runtime_nanotime", "internal/sync.runtime_SemacquireMutex", "sync/atomic.AddInt32", "(*internal/sync.Mutex).Unlock", "internal/race.ReleaseMerge", "(*internal/sync.Mutex).unlockSlow", "internal/sync.fatal", "internal/sync.runtime_Semrelease", "sync/atomic.StoreUint32"], unfollowed := true, recurses := true, apart := false }
def CoreReadsSaid : Prop := coreReadsRow.holds Try.pinned (OpenSpec.ofChange coreReadsSpec)

/-- ITS FALSE NEIGHBOUR: 'it returns false'. Refute it at one input. -/
def coreReadsWrong : ChangeSpec := { name := "coreReads", fn := fun _ => fun
  | [d1, d2, d3] => { results := [.lit (.bool false)], args := [d1, d2, d3] }
  | _ => none }
def CoreReadsWrongFalsely : Prop := coreReadsRow.holds Try.pinned (OpenSpec.ofChange coreReadsWrong)

/-- 'mummerlaw19.StubLeads': WHATEVER THE INPUT: true; the input reads as it did. -/
def stubLeadsSpec : ChangeSpec := { name := "stubLeads", fn := fun _ => fun
  | [d1, d2] => { results := [.lit (.bool true)], args := [d1, d2] }
  | _ => none }
def stubLeadsRow : OpenClaim := { program := "ytdbfjgmehmbefaa", sum := "602a3f473c4316295f3c4de35e8f214a96e6f72da7f53aed1d6a4b6d38c98694", func := "mummer/mummerlaw19.StubLeads", spec := "stubLeads", unfollowed := true, recurses := true, apart := false }
def StubLeadsSaid : Prop := stubLeadsRow.holds Try.pinned (OpenSpec.ofChange stubLeadsSpec)

/-- ITS FALSE NEIGHBOUR: 'it returns false'. Refute it at one input. -/
def stubLeadsWrong : ChangeSpec := { name := "stubLeads", fn := fun _ => fun
  | [d1, d2] => { results := [.lit (.bool false)], args := [d1, d2] }
  | _ => none }
def StubLeadsWrongFalsely : Prop := stubLeadsRow.holds Try.pinned (OpenSpec.ofChange stubLeadsWrong)

/-- 'mummerlaw18.ScanEnds': WHATEVER THE INPUT: true; the input reads as it did. -/
def scanEndsSpec : ChangeSpec := { name := "scanEnds", fn := fun _ => fun
  | [d1, d2] => { results := [.lit (.bool true)], args := [d1, d2] }
  | _ => none }
def scanEndsRow : OpenClaim := { program := "ytdbfjgmehmbefaa", sum := "602a3f473c4316295f3c4de35e8f214a96e6f72da7f53aed1d6a4b6d38c98694", func := "mummer/mummerlaw18.ScanEnds", spec := "scanEnds", inPlace := ["slices.overlaps[int]", "slices.overlaps[uint32]", "sync/atomic.LoadUint32", "(*internal/sync.Mutex).Lock", "internal/race.Disable", "sync/atomic.CompareAndSwapInt32", "internal/race.Enable", "internal/race.Acquire", "(*internal/sync.Mutex).lockSlow", "internal/sync.runtime_canSpin", "internal/sync.runtime_doSpin", "internal/sync.throw", "internal/sync.runtime_nanotime", "internal/sync.runtime_SemacquireMutex", "sync/atomic.AddInt32", "(*internal/sync.Mutex).Unlock", "internal/race.ReleaseMerge", "(*internal/sync.Mutex).unlockSlow", "internal/sync.fatal", "internal/sync.runtime_Semrelease", "sync/atomic.StoreUint32"], unfollowed := true, recurses := true, apart := false }
def ScanEndsSaid : Prop := scanEndsRow.holds Try.pinned (OpenSpec.ofChange scanEndsSpec)

/-- ITS FALSE NEIGHBOUR: 'it returns false'. Refute it at one input. -/
def scanEndsWrong : ChangeSpec := { name := "scanEnds", fn := fun _ => fun
  | [d1, d2] => { results := [.lit (.bool false)], args := [d1, d2] }
  | _ => none }
def ScanEndsWrongFalsely : Prop := scanEndsRow.holds Try.pinned (OpenSpec.ofChange scanEndsWrong)

/-- 'mummerlaw18.ScanLess': WHATEVER THE INPUT: true; the input reads as it did. -/
def scanLessSpec : ChangeSpec := { name := "scanLess", fn := fun _ => fun
  | [d1, d2, d3] => { results := [.lit (.bool true)], args := [d1, d2, d3] }
  | _ => none }
def scanLessRow : OpenClaim := { program := "ytdbfjgmehmbefaa", sum := "602a3f473c4316295f3c4de35e8f214a96e6f72da7f53aed1d6a4b6d38c98694", func := "mummer/mummerlaw18.ScanLess", spec := "scanLess", inPlace := ["slices.overlaps[int]", "slices.overlaps[uint32]", "sync/atomic.LoadUint32", "(*internal/sync.Mutex).Lock", "internal/race.Disable", "sync/atomic.CompareAndSwapInt32", "internal/race.Enable", "internal/race.Acquire", "(*internal/sync.Mutex).lockSlow", "internal/sync.runtime_canSpin", "internal/sync.runtime_doSpin", "internal/sync.throw", "internal/sync.runtime_nanotime", "internal/sync.runtime_SemacquireMutex", "sync/atomic.AddInt32", "(*internal/sync.Mutex).Unlock", "internal/race.ReleaseMerge", "(*internal/sync.Mutex).unlockSlow", "internal/sync.fatal", "internal/sync.runtime_Semrelease", "sync/atomic.StoreUint32"], unfollowed := true, recurses := true, apart := false }
def ScanLessSaid : Prop := scanLessRow.holds Try.pinned (OpenSpec.ofChange scanLessSpec)

/-- ITS FALSE NEIGHBOUR: 'it returns false'. Refute it at one input. -/
def scanLessWrong : ChangeSpec := { name := "scanLess", fn := fun _ => fun
  | [d1, d2, d3] => { results := [.lit (.bool false)], args := [d1, d2, d3] }
  | _ => none }
def ScanLessWrongFalsely : Prop := scanLessRow.holds Try.pinned (OpenSpec.ofChange scanLessWrong)

/-- 'mummerlaw18.ScanHangs': WHATEVER THE INPUT: true; the input reads as it did. -/
def scanHangsSpec : ChangeSpec := { name := "scanHangs", fn := fun _ => fun
  | [d1, d2, d3] => { results := [.lit (.bool true)], args := [d1, d2, d3] }
  | _ => none }
def scanHangsRow : OpenClaim := { program := "ytdbfjgmehmbefaa", sum := "602a3f473c4316295f3c4de35e8f214a96e6f72da7f53aed1d6a4b6d38c98694", func := "mummer/mummerlaw18.ScanHangs", spec := "scanHangs", inPlace := ["slices.overlaps[int]", "slices.overlaps[uint32]", "sync/atomic.LoadUint32", "(*internal/sync.Mutex).Lock", "internal/race.Disable", "sync/atomic.CompareAndSwapInt32", "internal/race.Enable", "internal/race.Acquire", "(*internal/sync.Mutex).lockSlow", "internal/sync.runtime_canSpin", "internal/sync.runtime_doSpin", "internal/sync.throw", "internal/sync.runtime_nanotime", "internal/sync.runtime_SemacquireMutex", "sync/atomic.AddInt32", "(*internal/sync.Mutex).Unlock", "internal/race.ReleaseMerge", "(*internal/sync.Mutex).unlockSlow", "internal/sync.fatal", "internal/sync.runtime_Semrelease", "sync/atomic.StoreUint32"], unfollowed := true, recurses := true, apart := false }
def ScanHangsSaid : Prop := scanHangsRow.holds Try.pinned (OpenSpec.ofChange scanHangsSpec)

/-- ITS FALSE NEIGHBOUR: 'it returns false'. Refute it at one input. -/
def scanHangsWrong : ChangeSpec := { name := "scanHangs", fn := fun _ => fun
  | [d1, d2, d3] => { results := [.lit (.bool false)], args := [d1, d2, d3] }
  | _ => none }
def ScanHangsWrongFalsely : Prop := scanHangsRow.holds Try.pinned (OpenSpec.ofChange scanHangsWrong)

/- THE SECOND FORM. 'bulk': how many values and letters a reading holds, each counted each time it is reached (what is shared counts as often as it is met; a slice's spare places count too). A statement '..UptoSaid' is the law's where the arguments, and the package variables that the reading takes, are together of bulk at most 1048576: NARROWER than '..Said'. Prove '..Said' where nothing that the law and all that it calls make is longer than what came in: it says more and counts as full. Else prove '..UptoSaid'. A law counts once. -/
mutual
def uptoBulk {H : Type} : DataW H → Nat
  | .lit (.string bytes) => bytes.length + 1
  | .lit _ => 1
  | .nil => 1
  | .ptr d => uptoBulk d + 1
  | .slice elems spare => uptoBulkAll elems + uptoBulkAll spare + 1
  | .agg parts => uptoBulkAll parts + 1
  | .iface _ d => uptoBulk d + 1
  | .map entries => uptoBulkEntries entries + 1
  | .held _ => 1
def uptoBulkAll {H : Type} : List (DataW H) → Nat
  | [] => 0
  | d :: r => uptoBulk d + uptoBulkAll r
def uptoBulkEntries {H : Type} : List (Lit × DataW H) → Nat
  | [] => 0
  | x :: r => uptoBulkEntry x + uptoBulkEntries r
def uptoBulkEntry {H : Type} : Lit × DataW H → Nat
  | (.string bytes, d) => bytes.length + uptoBulk d + 1
  | (_, d) => uptoBulk d + 1
 end
def uptoSmall : (H : Type) → List (DataW H) → Bool := fun _ ds => decide (uptoBulkAll ds ≤ 1048576)
def OpenSpec.upto (s : _root_.Go.ChangeSpec) : _root_.Go.OpenSpec := { _root_.Go.OpenSpec.ofChange s with cond := some uptoSmall }

/-- 'mummerlaw08.CoreWants', WHERE WHAT IT READS IS OF BULK AT MOST 1048576: true; the input reads as it did. -/
def coreWantsUptoRow : OpenClaim := { program := "ytdbfjgmehmbefaa", sum := "602a3f473c4316295f3c4de35e8f214a96e6f72da7f53aed1d6a4b6d38c98694", func := "mummer/mummerlaw08.CoreWants", spec := "coreWants", unfollowed := true, recurses := true, apart := false, narrowed := true }
def CoreWantsUptoSaid : Prop := coreWantsUptoRow.holds Try.pinned (OpenSpec.upto coreWantsSpec)

/-- 'mummerlaw08.CoreDoes', WHERE WHAT IT READS IS OF BULK AT MOST 1048576: true; the input reads as it did. -/
def coreDoesUptoRow : OpenClaim := { program := "ytdbfjgmehmbefaa", sum := "602a3f473c4316295f3c4de35e8f214a96e6f72da7f53aed1d6a4b6d38c98694", func := "mummer/mummerlaw08.CoreDoes", spec := "coreDoes", unfollowed := true, recurses := true, apart := false, narrowed := true }
def CoreDoesUptoSaid : Prop := coreDoesUptoRow.holds Try.pinned (OpenSpec.upto coreDoesSpec)

/-- 'mummerlaw08.CoreTwice', WHERE WHAT IT READS IS OF BULK AT MOST 1048576: true; the input reads as it did. -/
def coreTwiceUptoRow : OpenClaim := { program := "ytdbfjgmehmbefaa", sum := "602a3f473c4316295f3c4de35e8f214a96e6f72da7f53aed1d6a4b6d38c98694", func := "mummer/mummerlaw08.CoreTwice", spec := "coreTwice", unfollowed := true, recurses := true, apart := false, narrowed := true }
def CoreTwiceUptoSaid : Prop := coreTwiceUptoRow.holds Try.pinned (OpenSpec.upto coreTwiceSpec)

/-- 'mummerlaw08.CoreNext', WHERE WHAT IT READS IS OF BULK AT MOST 1048576: true; the input reads as it did. -/
def coreNextUptoRow : OpenClaim := { program := "ytdbfjgmehmbefaa", sum := "602a3f473c4316295f3c4de35e8f214a96e6f72da7f53aed1d6a4b6d38c98694", func := "mummer/mummerlaw08.CoreNext", spec := "coreNext", inPlace := ["sync/atomic.LoadUint32", "(*internal/sync.Mutex).Lock", "internal/race.Disable", "sync/atomic.CompareAndSwapInt32", "internal/race.Enable", "internal/race.Acquire", "(*internal/sync.Mutex).lockSlow", "internal/sync.runtime_canSpin", "internal/sync.runtime_doSpin", "internal/sync.throw", "internal/sync.runtime_nanotime", "internal/sync.runtime_SemacquireMutex", "sync/atomic.AddInt32", "(*internal/sync.Mutex).Unlock", "internal/race.ReleaseMerge", "(*internal/sync.Mutex).unlockSlow", "internal/sync.fatal", "internal/sync.runtime_Semrelease", "sync/atomic.StoreUint32"], unfollowed := true, recurses := true, apart := false, narrowed := true }
def CoreNextUptoSaid : Prop := coreNextUptoRow.holds Try.pinned (OpenSpec.upto coreNextSpec)

/-- 'mummerlaw08.CoreFails', WHERE WHAT IT READS IS OF BULK AT MOST 1048576: true; the input reads as it did. -/
def coreFailsUptoRow : OpenClaim := { program := "ytdbfjgmehmbefaa", sum := "602a3f473c4316295f3c4de35e8f214a96e6f72da7f53aed1d6a4b6d38c98694", func := "mummer/mummerlaw08.CoreFails", spec := "coreFails", inPlace := ["sync/atomic.LoadUint32", "(*internal/sync.Mutex).Lock", "internal/race.Disable", "sync/atomic.CompareAndSwapInt32", "internal/race.Enable", "internal/race.Acquire", "(*internal/sync.Mutex).lockSlow", "internal/sync.runtime_canSpin", "internal/sync.runtime_doSpin", "internal/sync.throw", "internal/sync.runtime_nanotime", "internal/sync.runtime_SemacquireMutex", "sync/atomic.AddInt32", "(*internal/sync.Mutex).Unlock", "internal/race.ReleaseMerge", "(*internal/sync.Mutex).unlockSlow", "internal/sync.fatal", "internal/sync.runtime_Semrelease", "sync/atomic.StoreUint32"], unfollowed := true, recurses := true, apart := false, narrowed := true }
def CoreFailsUptoSaid : Prop := coreFailsUptoRow.holds Try.pinned (OpenSpec.upto coreFailsSpec)

/-- 'mummerlaw08.CoreWrites', WHERE WHAT IT READS IS OF BULK AT MOST 1048576: true; the input reads as it did. -/
def coreWritesUptoRow : OpenClaim := { program := "ytdbfjgmehmbefaa", sum := "602a3f473c4316295f3c4de35e8f214a96e6f72da7f53aed1d6a4b6d38c98694", func := "mummer/mummerlaw08.CoreWrites", spec := "coreWrites", inPlace := ["sync/atomic.LoadUint32", "(*internal/sync.Mutex).Lock", "internal/race.Disable", "sync/atomic.CompareAndSwapInt32", "internal/race.Enable", "internal/race.Acquire", "(*internal/sync.Mutex).lockSlow", "internal/sync.runtime_canSpin", "internal/sync.runtime_doSpin", "internal/sync.throw", "internal/sync.runtime_nanotime", "internal/sync.runtime_SemacquireMutex", "sync/atomic.AddInt32", "(*internal/sync.Mutex).Unlock", "internal/race.ReleaseMerge", "(*internal/sync.Mutex).unlockSlow", "internal/sync.fatal", "internal/sync.runtime_Semrelease", "sync/atomic.StoreUint32"], unfollowed := true, recurses := true, apart := false, narrowed := true }
def CoreWritesUptoSaid : Prop := coreWritesUptoRow.holds Try.pinned (OpenSpec.upto coreWritesSpec)

/-- 'mummerlaw08.CoreReads', WHERE WHAT IT READS IS OF BULK AT MOST 1048576: true; the input reads as it did. -/
def coreReadsUptoRow : OpenClaim := { program := "ytdbfjgmehmbefaa", sum := "602a3f473c4316295f3c4de35e8f214a96e6f72da7f53aed1d6a4b6d38c98694", func := "mummer/mummerlaw08.CoreReads", spec := "coreReads", inPlace := ["sync/atomic.LoadUint32", "(*internal/sync.Mutex).Lock", "internal/race.Disable", "sync/atomic.CompareAndSwapInt32", "internal/race.Enable", "internal/race.Acquire", "(*internal/sync.Mutex).lockSlow", "internal/sync.runtime_canSpin", "internal/sync.runtime_doSpin", "internal/sync.throw", "internal/sync.runtime_nanotime", "internal/sync.runtime_SemacquireMutex", "sync/atomic.AddInt32", "(*internal/sync.Mutex).Unlock", "internal/race.ReleaseMerge", "(*internal/sync.Mutex).unlockSlow", "internal/sync.fatal", "internal/sync.runtime_Semrelease", "sync/atomic.StoreUint32"], unfollowed := true, recurses := true, apart := false, narrowed := true }
def CoreReadsUptoSaid : Prop := coreReadsUptoRow.holds Try.pinned (OpenSpec.upto coreReadsSpec)

/-- 'mummerlaw19.StubLeads', WHERE WHAT IT READS IS OF BULK AT MOST 1048576: true; the input reads as it did. -/
def stubLeadsUptoRow : OpenClaim := { program := "ytdbfjgmehmbefaa", sum := "602a3f473c4316295f3c4de35e8f214a96e6f72da7f53aed1d6a4b6d38c98694", func := "mummer/mummerlaw19.StubLeads", spec := "stubLeads", unfollowed := true, recurses := true, apart := false, narrowed := true }
def StubLeadsUptoSaid : Prop := stubLeadsUptoRow.holds Try.pinned (OpenSpec.upto stubLeadsSpec)

/-- 'mummerlaw18.ScanEnds', WHERE WHAT IT READS IS OF BULK AT MOST 1048576: true; the input reads as it did. -/
def scanEndsUptoRow : OpenClaim := { program := "ytdbfjgmehmbefaa", sum := "602a3f473c4316295f3c4de35e8f214a96e6f72da7f53aed1d6a4b6d38c98694", func := "mummer/mummerlaw18.ScanEnds", spec := "scanEnds", inPlace := ["slices.overlaps[int]", "slices.overlaps[uint32]", "sync/atomic.LoadUint32", "(*internal/sync.Mutex).Lock", "internal/race.Disable", "sync/atomic.CompareAndSwapInt32", "internal/race.Enable", "internal/race.Acquire", "(*internal/sync.Mutex).lockSlow", "internal/sync.runtime_canSpin", "internal/sync.runtime_doSpin", "internal/sync.throw", "internal/sync.runtime_nanotime", "internal/sync.runtime_SemacquireMutex", "sync/atomic.AddInt32", "(*internal/sync.Mutex).Unlock", "internal/race.ReleaseMerge", "(*internal/sync.Mutex).unlockSlow", "internal/sync.fatal", "internal/sync.runtime_Semrelease", "sync/atomic.StoreUint32"], unfollowed := true, recurses := true, apart := false, narrowed := true }
def ScanEndsUptoSaid : Prop := scanEndsUptoRow.holds Try.pinned (OpenSpec.upto scanEndsSpec)

/-- 'mummerlaw18.ScanLess', WHERE WHAT IT READS IS OF BULK AT MOST 1048576: true; the input reads as it did. -/
def scanLessUptoRow : OpenClaim := { program := "ytdbfjgmehmbefaa", sum := "602a3f473c4316295f3c4de35e8f214a96e6f72da7f53aed1d6a4b6d38c98694", func := "mummer/mummerlaw18.ScanLess", spec := "scanLess", inPlace := ["slices.overlaps[int]", "slices.overlaps[uint32]", "sync/atomic.LoadUint32", "(*internal/sync.Mutex).Lock", "internal/race.Disable", "sync/atomic.CompareAndSwapInt32", "internal/race.Enable", "internal/race.Acquire", "(*internal/sync.Mutex).lockSlow", "internal/sync.runtime_canSpin", "internal/sync.runtime_doSpin", "internal/sync.throw", "internal/sync.runtime_nanotime", "internal/sync.runtime_SemacquireMutex", "sync/atomic.AddInt32", "(*internal/sync.Mutex).Unlock", "internal/race.ReleaseMerge", "(*internal/sync.Mutex).unlockSlow", "internal/sync.fatal", "internal/sync.runtime_Semrelease", "sync/atomic.StoreUint32"], unfollowed := true, recurses := true, apart := false, narrowed := true }
def ScanLessUptoSaid : Prop := scanLessUptoRow.holds Try.pinned (OpenSpec.upto scanLessSpec)

/-- 'mummerlaw18.ScanHangs', WHERE WHAT IT READS IS OF BULK AT MOST 1048576: true; the input reads as it did. -/
def scanHangsUptoRow : OpenClaim := { program := "ytdbfjgmehmbefaa", sum := "602a3f473c4316295f3c4de35e8f214a96e6f72da7f53aed1d6a4b6d38c98694", func := "mummer/mummerlaw18.ScanHangs", spec := "scanHangs", inPlace := ["slices.overlaps[int]", "slices.overlaps[uint32]", "sync/atomic.LoadUint32", "(*internal/sync.Mutex).Lock", "internal/race.Disable", "sync/atomic.CompareAndSwapInt32", "internal/race.Enable", "internal/race.Acquire", "(*internal/sync.Mutex).lockSlow", "internal/sync.runtime_canSpin", "internal/sync.runtime_doSpin", "internal/sync.throw", "internal/sync.runtime_nanotime", "internal/sync.runtime_SemacquireMutex", "sync/atomic.AddInt32", "(*internal/sync.Mutex).Unlock", "internal/race.ReleaseMerge", "(*internal/sync.Mutex).unlockSlow", "internal/sync.fatal", "internal/sync.runtime_Semrelease", "sync/atomic.StoreUint32"], unfollowed := true, recurses := true, apart := false, narrowed := true }
def ScanHangsUptoSaid : Prop := scanHangsUptoRow.holds Try.pinned (OpenSpec.upto scanHangsSpec)

end Rows
end Go.Proofs.Ytdbfjgmehmbefaa
