/-
  No cell of these rows narrows 'for every input' (looked for: loops, veiled, ifaces, maps, wideKeys, modest, calm, conditions, laid).
  DERIVED. THE GIVEN ROWS OF THIS SEAT. 17 by the template 'for every input the law returns true; each argument reads behind the call as it read before'; 0 by the template 'total and deterministic' (their statements: YtdchhkdgcjnhpaaTotals.lean).
  GIVEN WITH THE SEED: the statements are not yours to turn. If you find one false, say at which input.
  Laid BY PROGRAM, IN A SANDBOX (cutbox-rows.mjs): the forced cells as the released guide's own fill.sh prints them over the translation 7bd078689e47382a… (all of the seat's roots in one cut). By AI agents, Wed Nov 11 2026. No macro, syntax, notation, axiom, sorry.
-/
import Derived.Test.YtdchhkdgcjnhpaaChecked
import GoSem.Claim
import GoSem.ClaimJoined
import GoSem.ClaimMapViews
import Derived.JoinedTies
import Derived.KernelRfl
namespace Go.Proofs.Ytdchhkdgcjnhpaa
/- THE CELL 'sum', in the pinned program and in every row, IS THE sha256 OF THE DUMP (.gsa) THAT YtdchhkdgcjnhpaaProg.lean LOADS. Nothing in Lean hashes anything: it is a label: what it is worth is what the hold of that sum in a sandbox is worth. -/
noncomputable def Try.pinned : Pinned := { name := "ytdchhkdgcjnhpaa", sum := "7bd078689e47382a62bbdf46ca62e72742846e0e31e430b0f17447342951f068", checked := Try.checked }
namespace Rows
def none {H : Type} : Left H := { results := [], args := [] }

/-- 'mummerlaw19.StubMakes': WHATEVER THE INPUT: true; the input reads as it did. -/
def stubMakesSpec : ChangeSpec := { name := "stubMakes", fn := fun _ => fun
  | [d1, d2] => { results := [.lit (.bool true)], args := [d1, d2] }
  | _ => none }
def stubMakesRow : OpenClaim := { program := "ytdchhkdgcjnhpaa", sum := "7bd078689e47382a62bbdf46ca62e72742846e0e31e430b0f17447342951f068", func := "mummer/mummerlaw19.StubMakes", spec := "stubMakes", apart := false }
def StubMakesSaid : Prop := stubMakesRow.holds Try.pinned (OpenSpec.ofChange stubMakesSpec)

/-- ITS FALSE NEIGHBOUR: 'it returns false'. Refute it at one input. -/
def stubMakesWrong : ChangeSpec := { name := "stubMakes", fn := fun _ => fun
  | [d1, d2] => { results := [.lit (.bool false)], args := [d1, d2] }
  | _ => none }
def StubMakesWrongFalsely : Prop := stubMakesRow.holds Try.pinned (OpenSpec.ofChange stubMakesWrong)

/-- 'mummerlaw19.StubJumps': WHATEVER THE INPUT: true; the input reads as it did. -/
def stubJumpsSpec : ChangeSpec := { name := "stubJumps", fn := fun _ => fun
  | [d1, d2] => { results := [.lit (.bool true)], args := [d1, d2] }
  | _ => none }
def stubJumpsRow : OpenClaim := { program := "ytdchhkdgcjnhpaa", sum := "7bd078689e47382a62bbdf46ca62e72742846e0e31e430b0f17447342951f068", func := "mummer/mummerlaw19.StubJumps", spec := "stubJumps", apart := false }
def StubJumpsSaid : Prop := stubJumpsRow.holds Try.pinned (OpenSpec.ofChange stubJumpsSpec)

/-- ITS FALSE NEIGHBOUR: 'it returns false'. Refute it at one input. -/
def stubJumpsWrong : ChangeSpec := { name := "stubJumps", fn := fun _ => fun
  | [d1, d2] => { results := [.lit (.bool false)], args := [d1, d2] }
  | _ => none }
def StubJumpsWrongFalsely : Prop := stubJumpsRow.holds Try.pinned (OpenSpec.ofChange stubJumpsWrong)

/-- 'mummerlaw19.StubReads': WHATEVER THE INPUT: true; the input reads as it did. -/
def stubReadsSpec : ChangeSpec := { name := "stubReads", fn := fun _ => fun
  | [d] => { results := [.lit (.bool true)], args := [d] }
  | _ => none }
def stubReadsRow : OpenClaim := { program := "ytdchhkdgcjnhpaa", sum := "7bd078689e47382a62bbdf46ca62e72742846e0e31e430b0f17447342951f068", func := "mummer/mummerlaw19.StubReads", spec := "stubReads", unfollowed := true, recurses := true, apart := false }
def StubReadsSaid : Prop := stubReadsRow.holds Try.pinned (OpenSpec.ofChange stubReadsSpec)

/-- ITS FALSE NEIGHBOUR: 'it returns false'. Refute it at one input. -/
def stubReadsWrong : ChangeSpec := { name := "stubReads", fn := fun _ => fun
  | [d] => { results := [.lit (.bool false)], args := [d] }
  | _ => none }
def StubReadsWrongFalsely : Prop := stubReadsRow.holds Try.pinned (OpenSpec.ofChange stubReadsWrong)

/-- 'mummerlaw19.StubBack': WHATEVER THE INPUT: true; the input reads as it did. -/
def stubBackSpec : ChangeSpec := { name := "stubBack", fn := fun _ => fun
  | [d1, d2, d3] => { results := [.lit (.bool true)], args := [d1, d2, d3] }
  | _ => none }
def stubBackRow : OpenClaim := { program := "ytdchhkdgcjnhpaa", sum := "7bd078689e47382a62bbdf46ca62e72742846e0e31e430b0f17447342951f068", func := "mummer/mummerlaw19.StubBack", spec := "stubBack", unfollowed := true, recurses := true, apart := false }
def StubBackSaid : Prop := stubBackRow.holds Try.pinned (OpenSpec.ofChange stubBackSpec)

/-- ITS FALSE NEIGHBOUR: 'it returns false'. Refute it at one input. -/
def stubBackWrong : ChangeSpec := { name := "stubBack", fn := fun _ => fun
  | [d1, d2, d3] => { results := [.lit (.bool false)], args := [d1, d2, d3] }
  | _ => none }
def StubBackWrongFalsely : Prop := stubBackRow.holds Try.pinned (OpenSpec.ofChange stubBackWrong)

/-- 'mummerlaw20.TranslateMays': WHATEVER THE INPUT: true; the input reads as it did. -/
def translateMaysSpec : ChangeSpec := { name := "translateMays", fn := fun _ => fun
  | [d] => { results := [.lit (.bool true)], args := [d] }
  | _ => none }
def translateMaysRow : OpenClaim := { program := "ytdchhkdgcjnhpaa", sum := "7bd078689e47382a62bbdf46ca62e72742846e0e31e430b0f17447342951f068", func := "mummer/mummerlaw20.TranslateMays", spec := "translateMays", inPlace := ["sync/atomic.LoadUint32", "(*internal/sync.Mutex).Lock", "internal/race.Disable", "sync/atomic.CompareAndSwapInt32", "internal/race.Enable", "internal/race.Acquire", "(*internal/sync.Mutex).lockSlow", "internal/sync.runtime_canSpin", "internal/sync.runtime_doSpin", "internal/sync.throw", "internal/sync.runtime_nanotime", "internal/sync.runtime_SemacquireMutex", "sync/atomic.AddInt32", "(*internal/sync.Mutex).Unlock", "internal/race.ReleaseMerge", "(*internal/sync.Mutex).unlockSlow", "internal/sync.fatal", "internal/sync.runtime_Semrelease", "sync/atomic.StoreUint32"], unfollowed := true, recurses := true, apart := false }
def TranslateMaysSaid : Prop := translateMaysRow.holds Try.pinned (OpenSpec.ofChange translateMaysSpec)

/-- ITS FALSE NEIGHBOUR: 'it returns false'. Refute it at one input. -/
def translateMaysWrong : ChangeSpec := { name := "translateMays", fn := fun _ => fun
  | [d] => { results := [.lit (.bool false)], args := [d] }
  | _ => none }
def TranslateMaysWrongFalsely : Prop := translateMaysRow.holds Try.pinned (OpenSpec.ofChange translateMaysWrong)

/-- 'mummerlaw20.TranslateMakes': WHATEVER THE INPUT: true; the input reads as it did. -/
def translateMakesSpec : ChangeSpec := { name := "translateMakes", fn := fun _ => fun
  | [d1, d2] => { results := [.lit (.bool true)], args := [d1, d2] }
  | _ => none }
def translateMakesRow : OpenClaim := { program := "ytdchhkdgcjnhpaa", sum := "7bd078689e47382a62bbdf46ca62e72742846e0e31e430b0f17447342951f068", func := "mummer/mummerlaw20.TranslateMakes", spec := "translateMakes", inPlace := ["sync/atomic.LoadUint32", "(*internal/sync.Mutex).Lock", "internal/race.Disable", "sync/atomic.CompareAndSwapInt32", "internal/race.Enable", "internal/race.Acquire", "(*internal/sync.Mutex).lockSlow", "internal/sync.runtime_canSpin", "internal/sync.runtime_doSpin", "internal/sync.throw", "internal/sync.runtime_nanotime", "internal/sync.runtime_SemacquireMutex", "sync/atomic.AddInt32", "(*internal/sync.Mutex).Unlock", "internal/race.ReleaseMerge", "(*internal/sync.Mutex).unlockSlow", "internal/sync.fatal", "internal/sync.runtime_Semrelease", "sync/atomic.StoreUint32"], unfollowed := true, recurses := true, apart := false }
def TranslateMakesSaid : Prop := translateMakesRow.holds Try.pinned (OpenSpec.ofChange translateMakesSpec)

/-- ITS FALSE NEIGHBOUR: 'it returns false'. Refute it at one input. -/
def translateMakesWrong : ChangeSpec := { name := "translateMakes", fn := fun _ => fun
  | [d1, d2] => { results := [.lit (.bool false)], args := [d1, d2] }
  | _ => none }
def TranslateMakesWrongFalsely : Prop := translateMakesRow.holds Try.pinned (OpenSpec.ofChange translateMakesWrong)

/-- 'mummerlaw08.CoreWants': WHATEVER THE INPUT: true; the input reads as it did. -/
def coreWantsSpec : ChangeSpec := { name := "coreWants", fn := fun _ => fun
  | [d1, d2] => { results := [.lit (.bool true)], args := [d1, d2] }
  | _ => none }
def coreWantsRow : OpenClaim := { program := "ytdchhkdgcjnhpaa", sum := "7bd078689e47382a62bbdf46ca62e72742846e0e31e430b0f17447342951f068", func := "mummer/mummerlaw08.CoreWants", spec := "coreWants", unfollowed := true, recurses := true, apart := false }
def CoreWantsSaid : Prop := coreWantsRow.holds Try.pinned (OpenSpec.ofChange coreWantsSpec)

/-- ITS FALSE NEIGHBOUR: 'it returns false'. Refute it at one input. -/
def coreWantsWrong : ChangeSpec := { name := "coreWants", fn := fun _ => fun
  | [d1, d2] => { results := [.lit (.bool false)], args := [d1, d2] }
  | _ => none }
def CoreWantsWrongFalsely : Prop := coreWantsRow.holds Try.pinned (OpenSpec.ofChange coreWantsWrong)

/-- 'mummerlaw08.CoreDoes': WHATEVER THE INPUT: true; the input reads as it did. -/
def coreDoesSpec : ChangeSpec := { name := "coreDoes", fn := fun _ => fun
  | [d1, d2, d3] => { results := [.lit (.bool true)], args := [d1, d2, d3] }
  | _ => none }
def coreDoesRow : OpenClaim := { program := "ytdchhkdgcjnhpaa", sum := "7bd078689e47382a62bbdf46ca62e72742846e0e31e430b0f17447342951f068", func := "mummer/mummerlaw08.CoreDoes", spec := "coreDoes", unfollowed := true, recurses := true, apart := false }
def CoreDoesSaid : Prop := coreDoesRow.holds Try.pinned (OpenSpec.ofChange coreDoesSpec)

/-- ITS FALSE NEIGHBOUR: 'it returns false'. Refute it at one input. -/
def coreDoesWrong : ChangeSpec := { name := "coreDoes", fn := fun _ => fun
  | [d1, d2, d3] => { results := [.lit (.bool false)], args := [d1, d2, d3] }
  | _ => none }
def CoreDoesWrongFalsely : Prop := coreDoesRow.holds Try.pinned (OpenSpec.ofChange coreDoesWrong)

/-- 'mummerlaw08.CoreTwice': WHATEVER THE INPUT: true; the input reads as it did. -/
def coreTwiceSpec : ChangeSpec := { name := "coreTwice", fn := fun _ => fun
  | [d1, d2, d3] => { results := [.lit (.bool true)], args := [d1, d2, d3] }
  | _ => none }
def coreTwiceRow : OpenClaim := { program := "ytdchhkdgcjnhpaa", sum := "7bd078689e47382a62bbdf46ca62e72742846e0e31e430b0f17447342951f068", func := "mummer/mummerlaw08.CoreTwice", spec := "coreTwice", unfollowed := true, recurses := true, apart := false }
def CoreTwiceSaid : Prop := coreTwiceRow.holds Try.pinned (OpenSpec.ofChange coreTwiceSpec)

/-- ITS FALSE NEIGHBOUR: 'it returns false'. Refute it at one input. -/
def coreTwiceWrong : ChangeSpec := { name := "coreTwice", fn := fun _ => fun
  | [d1, d2, d3] => { results := [.lit (.bool false)], args := [d1, d2, d3] }
  | _ => none }
def CoreTwiceWrongFalsely : Prop := coreTwiceRow.holds Try.pinned (OpenSpec.ofChange coreTwiceWrong)

/-- 'mummerlaw20.TranslateRows': WHATEVER THE INPUT: true; the input reads as it did. -/
def translateRowsSpec : ChangeSpec := { name := "translateRows", fn := fun _ => fun
  | [d1, d2] => { results := [.lit (.bool true)], args := [d1, d2] }
  | _ => none }
def translateRowsRow : OpenClaim := { program := "ytdchhkdgcjnhpaa", sum := "7bd078689e47382a62bbdf46ca62e72742846e0e31e430b0f17447342951f068", func := "mummer/mummerlaw20.TranslateRows", spec := "translateRows", inPlace := ["sync/atomic.LoadUint32", "(*internal/sync.Mutex).Lock", "internal/race.Disable", "sync/atomic.CompareAndSwapInt32", "internal/race.Enable", "internal/race.Acquire", "(*internal/sync.Mutex).lockSlow", "internal/sync.runtime_canSpin", "internal/sync.runtime_doSpin", "internal/sync.throw", "internal/sync.runtime_nanotime", "internal/sync.runtime_SemacquireMutex", "sync/atomic.AddInt32", "(*internal/sync.Mutex).Unlock", "internal/race.ReleaseMerge", "(*internal/sync.Mutex).unlockSlow", "internal/sync.fatal", "internal/sync.runtime_Semrelease", "sync/atomic.StoreUint32"], unfollowed := true, recurses := true, apart := false }
def TranslateRowsSaid : Prop := translateRowsRow.holds Try.pinned (OpenSpec.ofChange translateRowsSpec)

/-- ITS FALSE NEIGHBOUR: 'it returns false'. Refute it at one input. -/
def translateRowsWrong : ChangeSpec := { name := "translateRows", fn := fun _ => fun
  | [d1, d2] => { results := [.lit (.bool false)], args := [d1, d2] }
  | _ => none }
def TranslateRowsWrongFalsely : Prop := translateRowsRow.holds Try.pinned (OpenSpec.ofChange translateRowsWrong)

/-- 'mummerlaw20.TranslateCounts': WHATEVER THE INPUT: true; the input reads as it did. -/
def translateCountsSpec : ChangeSpec := { name := "translateCounts", fn := fun _ => fun
  | [d1, d2] => { results := [.lit (.bool true)], args := [d1, d2] }
  | _ => none }
def translateCountsRow : OpenClaim := { program := "ytdchhkdgcjnhpaa", sum := "7bd078689e47382a62bbdf46ca62e72742846e0e31e430b0f17447342951f068", func := "mummer/mummerlaw20.TranslateCounts", spec := "translateCounts", inPlace := ["sync/atomic.LoadUint32", "(*internal/sync.Mutex).Lock", "internal/race.Disable", "sync/atomic.CompareAndSwapInt32", "internal/race.Enable", "internal/race.Acquire", "(*internal/sync.Mutex).lockSlow", "internal/sync.runtime_canSpin", "internal/sync.runtime_doSpin", "internal/sync.throw", "internal/sync.runtime_nanotime", "internal/sync.runtime_SemacquireMutex", "sync/atomic.AddInt32", "(*internal/sync.Mutex).Unlock", "internal/race.ReleaseMerge", "(*internal/sync.Mutex).unlockSlow", "internal/sync.fatal", "internal/sync.runtime_Semrelease", "sync/atomic.StoreUint32"], unfollowed := true, recurses := true, apart := false }
def TranslateCountsSaid : Prop := translateCountsRow.holds Try.pinned (OpenSpec.ofChange translateCountsSpec)

/-- ITS FALSE NEIGHBOUR: 'it returns false'. Refute it at one input. -/
def translateCountsWrong : ChangeSpec := { name := "translateCounts", fn := fun _ => fun
  | [d1, d2] => { results := [.lit (.bool false)], args := [d1, d2] }
  | _ => none }
def TranslateCountsWrongFalsely : Prop := translateCountsRow.holds Try.pinned (OpenSpec.ofChange translateCountsWrong)

/-- 'mummerlaw20.TranslateSafe': WHATEVER THE INPUT: true; the input reads as it did. -/
def translateSafeSpec : ChangeSpec := { name := "translateSafe", fn := fun _ => fun
  | [d1, d2] => { results := [.lit (.bool true)], args := [d1, d2] }
  | _ => none }
def translateSafeRow : OpenClaim := { program := "ytdchhkdgcjnhpaa", sum := "7bd078689e47382a62bbdf46ca62e72742846e0e31e430b0f17447342951f068", func := "mummer/mummerlaw20.TranslateSafe", spec := "translateSafe", inPlace := ["sync/atomic.LoadUint32", "(*internal/sync.Mutex).Lock", "internal/race.Disable", "sync/atomic.CompareAndSwapInt32", "internal/race.Enable", "internal/race.Acquire", "(*internal/sync.Mutex).lockSlow", "internal/sync.runtime_canSpin", "internal/sync.runtime_doSpin", "internal/sync.throw", "internal/sync.runtime_nanotime", "internal/sync.runtime_SemacquireMutex", "sync/atomic.AddInt32", "(*internal/sync.Mutex).Unlock", "internal/race.ReleaseMerge", "(*internal/sync.Mutex).unlockSlow", "internal/sync.fatal", "internal/sync.runtime_Semrelease", "sync/atomic.StoreUint32"], unfollowed := true, recurses := true, apart := false }
def TranslateSafeSaid : Prop := translateSafeRow.holds Try.pinned (OpenSpec.ofChange translateSafeSpec)

/-- ITS FALSE NEIGHBOUR: 'it returns false'. Refute it at one input. -/
def translateSafeWrong : ChangeSpec := { name := "translateSafe", fn := fun _ => fun
  | [d1, d2] => { results := [.lit (.bool false)], args := [d1, d2] }
  | _ => none }
def TranslateSafeWrongFalsely : Prop := translateSafeRow.holds Try.pinned (OpenSpec.ofChange translateSafeWrong)

/-- 'mummerlaw19.StubLeads': WHATEVER THE INPUT: true; the input reads as it did. -/
def stubLeadsSpec : ChangeSpec := { name := "stubLeads", fn := fun _ => fun
  | [d1, d2] => { results := [.lit (.bool true)], args := [d1, d2] }
  | _ => none }
def stubLeadsRow : OpenClaim := { program := "ytdchhkdgcjnhpaa", sum := "7bd078689e47382a62bbdf46ca62e72742846e0e31e430b0f17447342951f068", func := "mummer/mummerlaw19.StubLeads", spec := "stubLeads", unfollowed := true, recurses := true, apart := false }
def StubLeadsSaid : Prop := stubLeadsRow.holds Try.pinned (OpenSpec.ofChange stubLeadsSpec)

/-- ITS FALSE NEIGHBOUR: 'it returns false'. Refute it at one input. -/
def stubLeadsWrong : ChangeSpec := { name := "stubLeads", fn := fun _ => fun
  | [d1, d2] => { results := [.lit (.bool false)], args := [d1, d2] }
  | _ => none }
def StubLeadsWrongFalsely : Prop := stubLeadsRow.holds Try.pinned (OpenSpec.ofChange stubLeadsWrong)

/-- 'mummerlaw08.CoreNext': WHATEVER THE INPUT: true; the input reads as it did. -/
def coreNextSpec : ChangeSpec := { name := "coreNext", fn := fun _ => fun
  | [d1, d2, d3] => { results := [.lit (.bool true)], args := [d1, d2, d3] }
  | _ => none }
def coreNextRow : OpenClaim := { program := "ytdchhkdgcjnhpaa", sum := "7bd078689e47382a62bbdf46ca62e72742846e0e31e430b0f17447342951f068", func := "mummer/mummerlaw08.CoreNext", spec := "coreNext", inPlace := ["sync/atomic.LoadUint32", "(*internal/sync.Mutex).Lock", "internal/race.Disable", "sync/atomic.CompareAndSwapInt32", "internal/race.Enable", "internal/race.Acquire", "(*internal/sync.Mutex).lockSlow", "internal/sync.runtime_canSpin", "internal/sync.runtime_doSpin", "internal/sync.throw", "internal/sync.runtime_nanotime", "internal/sync.runtime_SemacquireMutex", "sync/atomic.AddInt32", "(*internal/sync.Mutex).Unlock", "internal/race.ReleaseMerge", "(*internal/sync.Mutex).unlockSlow", "internal/sync.fatal", "internal/sync.runtime_Semrelease", "sync/atomic.StoreUint32"], unfollowed := true, recurses := true, apart := false }
def CoreNextSaid : Prop := coreNextRow.holds Try.pinned (OpenSpec.ofChange coreNextSpec)

/-- ITS FALSE NEIGHBOUR: 'it returns false'. Refute it at one input. -/
def coreNextWrong : ChangeSpec := { name := "coreNext", fn := fun _ => fun
  | [d1, d2, d3] => { results := [.lit (.bool false)], args := [d1, d2, d3] }
  | _ => none }
def CoreNextWrongFalsely : Prop := coreNextRow.holds Try.pinned (OpenSpec.ofChange coreNextWrong)

/-- 'mummerlaw08.CoreFails': WHATEVER THE INPUT: true; the input reads as it did. -/
def coreFailsSpec : ChangeSpec := { name := "coreFails", fn := fun _ => fun
  | [d1, d2, d3] => { results := [.lit (.bool true)], args := [d1, d2, d3] }
  | _ => none }
def coreFailsRow : OpenClaim := { program := "ytdchhkdgcjnhpaa", sum := "7bd078689e47382a62bbdf46ca62e72742846e0e31e430b0f17447342951f068", func := "mummer/mummerlaw08.CoreFails", spec := "coreFails", inPlace := ["sync/atomic.LoadUint32", "(*internal/sync.Mutex).Lock", "internal/race.Disable", "sync/atomic.CompareAndSwapInt32", "internal/race.Enable", "internal/race.Acquire", "(*internal/sync.Mutex).lockSlow", "internal/sync.runtime_canSpin", "internal/sync.runtime_doSpin", "internal/sync.throw", "internal/sync.runtime_nanotime", "internal/sync.runtime_SemacquireMutex", "sync/atomic.AddInt32", "(*internal/sync.Mutex).Unlock", "internal/race.ReleaseMerge", "(*internal/sync.Mutex).unlockSlow", "internal/sync.fatal", "internal/sync.runtime_Semrelease", "sync/atomic.StoreUint32"], unfollowed := true, recurses := true, apart := false }
def CoreFailsSaid : Prop := coreFailsRow.holds Try.pinned (OpenSpec.ofChange coreFailsSpec)

/-- ITS FALSE NEIGHBOUR: 'it returns false'. Refute it at one input. -/
def coreFailsWrong : ChangeSpec := { name := "coreFails", fn := fun _ => fun
  | [d1, d2, d3] => { results := [.lit (.bool false)], args := [d1, d2, d3] }
  | _ => none }
def CoreFailsWrongFalsely : Prop := coreFailsRow.holds Try.pinned (OpenSpec.ofChange coreFailsWrong)

/-- 'mummerlaw08.CoreWrites': WHATEVER THE INPUT: true; the input reads as it did. -/
def coreWritesSpec : ChangeSpec := { name := "coreWrites", fn := fun _ => fun
  | [d1, d2, d3] => { results := [.lit (.bool true)], args := [d1, d2, d3] }
  | _ => none }
def coreWritesRow : OpenClaim := { program := "ytdchhkdgcjnhpaa", sum := "7bd078689e47382a62bbdf46ca62e72742846e0e31e430b0f17447342951f068", func := "mummer/mummerlaw08.CoreWrites", spec := "coreWrites", inPlace := ["sync/atomic.LoadUint32", "(*internal/sync.Mutex).Lock", "internal/race.Disable", "sync/atomic.CompareAndSwapInt32", "internal/race.Enable", "internal/race.Acquire", "(*internal/sync.Mutex).lockSlow", "internal/sync.runtime_canSpin", "internal/sync.runtime_doSpin", "internal/sync.throw", "internal/sync.runtime_nanotime", "internal/sync.runtime_SemacquireMutex", "sync/atomic.AddInt32", "(*internal/sync.Mutex).Unlock", "internal/race.ReleaseMerge", "(*internal/sync.Mutex).unlockSlow", "internal/sync.fatal", "internal/sync.runtime_Semrelease", "sync/atomic.StoreUint32"], unfollowed := true, recurses := true, apart := false }
def CoreWritesSaid : Prop := coreWritesRow.holds Try.pinned (OpenSpec.ofChange coreWritesSpec)

/-- ITS FALSE NEIGHBOUR: 'it returns false'. Refute it at one input. -/
def coreWritesWrong : ChangeSpec := { name := "coreWrites", fn := fun _ => fun
  | [d1, d2, d3] => { results := [.lit (.bool false)], args := [d1, d2, d3] }
  | _ => none }
def CoreWritesWrongFalsely : Prop := coreWritesRow.holds Try.pinned (OpenSpec.ofChange coreWritesWrong)

/-- 'mummerlaw08.CoreReads': WHATEVER THE INPUT: true; the input reads as it did. -/
def coreReadsSpec : ChangeSpec := { name := "coreReads", fn := fun _ => fun
  | [d1, d2, d3] => { results := [.lit (.bool true)], args := [d1, d2, d3] }
  | _ => none }
def coreReadsRow : OpenClaim := { program := "ytdchhkdgcjnhpaa", sum := "7bd078689e47382a62bbdf46ca62e72742846e0e31e430b0f17447342951f068", func := "mummer/mummerlaw08.CoreReads", spec := "coreReads", inPlace := ["sync/atomic.LoadUint32", "(*internal/sync.Mutex).Lock", "internal/race.Disable", "sync/atomic.CompareAndSwapInt32", "internal/race.Enable", "internal/race.Acquire", "(*internal/sync.Mutex).lockSlow", "internal/sync.runtime_canSpin", "internal/sync.runtime_doSpin", "internal/sync.throw", "internal/sync.runtime_nanotime", "internal/sync.runtime_SemacquireMutex", "sync/atomic.AddInt32", "(*internal/sync.Mutex).Unlock", "internal/race.ReleaseMerge", "(*internal/sync.Mutex).unlockSlow", "internal/sync.fatal", "internal/sync.runtime_Semrelease", "sync/atomic.StoreUint32"], unfollowed := true, recurses := true, apart := false }
def CoreReadsSaid : Prop := coreReadsRow.holds Try.pinned (OpenSpec.ofChange coreReadsSpec)

/-- ITS FALSE NEIGHBOUR: 'it returns false'. Refute it at one input. -/
def coreReadsWrong : ChangeSpec := { name := "coreReads", fn := fun _ => fun
  | [d1, d2, d3] => { results := [.lit (.bool false)], args := [d1, d2, d3] }
  | _ => none }
def CoreReadsWrongFalsely : Prop := coreReadsRow.holds Try.pinned (OpenSpec.ofChange coreReadsWrong)

/- THE SECOND FORM. 'bulk': how many values and letters a reading holds, each counted each time it is reached (what is shared counts as often as it is met; a slice's spare places count too). A statement '..UptoSaid' is the law's where the arguments, and the package variables that the reading takes, are together of bulk at most 1048576: NARROWER than '..Said'. Prove '..Said' where nothing that the law and all that it calls make is longer than what came in: it says more and counts as full. Else prove '..UptoSaid'. A law counts once. -/
mutual
def uptoBulk {H : Type} : DataW H → Nat
  | .lit (.string bytes) => bytes.length + 1
  | .lit _ => 1
  | .nil => 1
  | .ptr d => uptoBulk d + 1
  | .slice elems spare => uptoBulkAll elems + uptoBulkAll spare + 1
  | .agg parts => uptoBulkAll parts + 1
  | .iface _ d => uptoBulk d + 1
  | .map entries => uptoBulkEntries entries + 1
  | .held _ => 1
def uptoBulkAll {H : Type} : List (DataW H) → Nat
  | [] => 0
  | d :: r => uptoBulk d + uptoBulkAll r
def uptoBulkEntries {H : Type} : List (Lit × DataW H) → Nat
  | [] => 0
  | x :: r => uptoBulkEntry x + uptoBulkEntries r
def uptoBulkEntry {H : Type} : Lit × DataW H → Nat
  | (.string bytes, d) => bytes.length + uptoBulk d + 1
  | (_, d) => uptoBulk d + 1
 end
def uptoSmall : (H : Type) → List (DataW H) → Bool := fun _ ds => decide (uptoBulkAll ds ≤ 1048576)
def OpenSpec.upto (s : _root_.Go.ChangeSpec) : _root_.Go.OpenSpec := { _root_.Go.OpenSpec.ofChange s with cond := some uptoSmall }

/-- 'mummerlaw19.StubMakes', WHERE WHAT IT READS IS OF BULK AT MOST 1048576: true; the input reads as it did. -/
def stubMakesUptoRow : OpenClaim := { program := "ytdchhkdgcjnhpaa", sum := "7bd078689e47382a62bbdf46ca62e72742846e0e31e430b0f17447342951f068", func := "mummer/mummerlaw19.StubMakes", spec := "stubMakes", apart := false, narrowed := true }
def StubMakesUptoSaid : Prop := stubMakesUptoRow.holds Try.pinned (OpenSpec.upto stubMakesSpec)

/-- 'mummerlaw19.StubJumps', WHERE WHAT IT READS IS OF BULK AT MOST 1048576: true; the input reads as it did. -/
def stubJumpsUptoRow : OpenClaim := { program := "ytdchhkdgcjnhpaa", sum := "7bd078689e47382a62bbdf46ca62e72742846e0e31e430b0f17447342951f068", func := "mummer/mummerlaw19.StubJumps", spec := "stubJumps", apart := false, narrowed := true }
def StubJumpsUptoSaid : Prop := stubJumpsUptoRow.holds Try.pinned (OpenSpec.upto stubJumpsSpec)

/-- 'mummerlaw19.StubReads', WHERE WHAT IT READS IS OF BULK AT MOST 1048576: true; the input reads as it did. -/
def stubReadsUptoRow : OpenClaim := { program := "ytdchhkdgcjnhpaa", sum := "7bd078689e47382a62bbdf46ca62e72742846e0e31e430b0f17447342951f068", func := "mummer/mummerlaw19.StubReads", spec := "stubReads", unfollowed := true, recurses := true, apart := false, narrowed := true }
def StubReadsUptoSaid : Prop := stubReadsUptoRow.holds Try.pinned (OpenSpec.upto stubReadsSpec)

/-- 'mummerlaw19.StubBack', WHERE WHAT IT READS IS OF BULK AT MOST 1048576: true; the input reads as it did. -/
def stubBackUptoRow : OpenClaim := { program := "ytdchhkdgcjnhpaa", sum := "7bd078689e47382a62bbdf46ca62e72742846e0e31e430b0f17447342951f068", func := "mummer/mummerlaw19.StubBack", spec := "stubBack", unfollowed := true, recurses := true, apart := false, narrowed := true }
def StubBackUptoSaid : Prop := stubBackUptoRow.holds Try.pinned (OpenSpec.upto stubBackSpec)

/-- 'mummerlaw20.TranslateMays', WHERE WHAT IT READS IS OF BULK AT MOST 1048576: true; the input reads as it did. -/
def translateMaysUptoRow : OpenClaim := { program := "ytdchhkdgcjnhpaa", sum := "7bd078689e47382a62bbdf46ca62e72742846e0e31e430b0f17447342951f068", func := "mummer/mummerlaw20.TranslateMays", spec := "translateMays", inPlace := ["sync/atomic.LoadUint32", "(*internal/sync.Mutex).Lock", "internal/race.Disable", "sync/atomic.CompareAndSwapInt32", "internal/race.Enable", "internal/race.Acquire", "(*internal/sync.Mutex).lockSlow", "internal/sync.runtime_canSpin", "internal/sync.runtime_doSpin", "internal/sync.throw", "internal/sync.runtime_nanotime", "internal/sync.runtime_SemacquireMutex", "sync/atomic.AddInt32", "(*internal/sync.Mutex).Unlock", "internal/race.ReleaseMerge", "(*internal/sync.Mutex).unlockSlow", "internal/sync.fatal", "internal/sync.runtime_Semrelease", "sync/atomic.StoreUint32"], unfollowed := true, recurses := true, apart := false, narrowed := true }
def TranslateMaysUptoSaid : Prop := translateMaysUptoRow.holds Try.pinned (OpenSpec.upto translateMaysSpec)

/-- 'mummerlaw20.TranslateMakes', WHERE WHAT IT READS IS OF BULK AT MOST 1048576: true; the input reads as it did. -/
def translateMakesUptoRow : OpenClaim := { program := "ytdchhkdgcjnhpaa", sum := "7bd078689e47382a62bbdf46ca62e72742846e0e31e430b0f17447342951f068", func := "mummer/mummerlaw20.TranslateMakes", spec := "translateMakes", inPlace := ["sync/atomic.LoadUint32", "(*internal/sync.Mutex).Lock", "internal/race.Disable", "sync/atomic.CompareAndSwapInt32", "internal/race.Enable", "internal/race.Acquire", "(*internal/sync.Mutex).lockSlow", "internal/sync.runtime_canSpin", "internal/sync.runtime_doSpin", "internal/sync.throw", "internal/sync.runtime_nanotime", "internal/sync.runtime_SemacquireMutex", "sync/atomic.AddInt32", "(*internal/sync.Mutex).Unlock", "internal/race.ReleaseMerge", "(*internal/sync.Mutex).unlockSlow", "internal/sync.fatal", "internal/sync.runtime_Semrelease", "sync/atomic.StoreUint32"], unfollowed := true, recurses := true, apart := false, narrowed := true }
def TranslateMakesUptoSaid : Prop := translateMakesUptoRow.holds Try.pinned (OpenSpec.upto translateMakesSpec)

/-- 'mummerlaw08.CoreWants', WHERE WHAT IT READS IS OF BULK AT MOST 1048576: true; the input reads as it did. -/
def coreWantsUptoRow : OpenClaim := { program := "ytdchhkdgcjnhpaa", sum := "7bd078689e47382a62bbdf46ca62e72742846e0e31e430b0f17447342951f068", func := "mummer/mummerlaw08.CoreWants", spec := "coreWants", unfollowed := true, recurses := true, apart := false, narrowed := true }
def CoreWantsUptoSaid : Prop := coreWantsUptoRow.holds Try.pinned (OpenSpec.upto coreWantsSpec)

/-- 'mummerlaw08.CoreDoes', WHERE WHAT IT READS IS OF BULK AT MOST 1048576: true; the input reads as it did. -/
def coreDoesUptoRow : OpenClaim := { program := "ytdchhkdgcjnhpaa", sum := "7bd078689e47382a62bbdf46ca62e72742846e0e31e430b0f17447342951f068", func := "mummer/mummerlaw08.CoreDoes", spec := "coreDoes", unfollowed := true, recurses := true, apart := false, narrowed := true }
def CoreDoesUptoSaid : Prop := coreDoesUptoRow.holds Try.pinned (OpenSpec.upto coreDoesSpec)

/-- 'mummerlaw08.CoreTwice', WHERE WHAT IT READS IS OF BULK AT MOST 1048576: true; the input reads as it did. -/
def coreTwiceUptoRow : OpenClaim := { program := "ytdchhkdgcjnhpaa", sum := "7bd078689e47382a62bbdf46ca62e72742846e0e31e430b0f17447342951f068", func := "mummer/mummerlaw08.CoreTwice", spec := "coreTwice", unfollowed := true, recurses := true, apart := false, narrowed := true }
def CoreTwiceUptoSaid : Prop := coreTwiceUptoRow.holds Try.pinned (OpenSpec.upto coreTwiceSpec)

/-- 'mummerlaw20.TranslateRows', WHERE WHAT IT READS IS OF BULK AT MOST 1048576: true; the input reads as it did. -/
def translateRowsUptoRow : OpenClaim := { program := "ytdchhkdgcjnhpaa", sum := "7bd078689e47382a62bbdf46ca62e72742846e0e31e430b0f17447342951f068", func := "mummer/mummerlaw20.TranslateRows", spec := "translateRows", inPlace := ["sync/atomic.LoadUint32", "(*internal/sync.Mutex).Lock", "internal/race.Disable", "sync/atomic.CompareAndSwapInt32", "internal/race.Enable", "internal/race.Acquire", "(*internal/sync.Mutex).lockSlow", "internal/sync.runtime_canSpin", "internal/sync.runtime_doSpin", "internal/sync.throw", "internal/sync.runtime_nanotime", "internal/sync.runtime_SemacquireMutex", "sync/atomic.AddInt32", "(*internal/sync.Mutex).Unlock", "internal/race.ReleaseMerge", "(*internal/sync.Mutex).unlockSlow", "internal/sync.fatal", "internal/sync.runtime_Semrelease", "sync/atomic.StoreUint32"], unfollowed := true, recurses := true, apart := false, narrowed := true }
def TranslateRowsUptoSaid : Prop := translateRowsUptoRow.holds Try.pinned (OpenSpec.upto translateRowsSpec)

/-- 'mummerlaw20.TranslateCounts', WHERE WHAT IT READS IS OF BULK AT MOST 1048576: true; the input reads as it did. -/
def translateCountsUptoRow : OpenClaim := { program := "ytdchhkdgcjnhpaa", sum := "7bd078689e47382a62bbdf46ca62e72742846e0e31e430b0f17447342951f068", func := "mummer/mummerlaw20.TranslateCounts", spec := "translateCounts", inPlace := ["sync/atomic.LoadUint32", "(*internal/sync.Mutex).Lock", "internal/race.Disable", "sync/atomic.CompareAndSwapInt32", "internal/race.Enable", "internal/race.Acquire", "(*internal/sync.Mutex).lockSlow", "internal/sync.runtime_canSpin", "internal/sync.runtime_doSpin", "internal/sync.throw", "internal/sync.runtime_nanotime", "internal/sync.runtime_SemacquireMutex", "sync/atomic.AddInt32", "(*internal/sync.Mutex).Unlock", "internal/race.ReleaseMerge", "(*internal/sync.Mutex).unlockSlow", "internal/sync.fatal", "internal/sync.runtime_Semrelease", "sync/atomic.StoreUint32"], unfollowed := true, recurses := true, apart := false, narrowed := true }
def TranslateCountsUptoSaid : Prop := translateCountsUptoRow.holds Try.pinned (OpenSpec.upto translateCountsSpec)

/-- 'mummerlaw20.TranslateSafe', WHERE WHAT IT READS IS OF BULK AT MOST 1048576: true; the input reads as it did. -/
def translateSafeUptoRow : OpenClaim := { program := "ytdchhkdgcjnhpaa", sum := "7bd078689e47382a62bbdf46ca62e72742846e0e31e430b0f17447342951f068", func := "mummer/mummerlaw20.TranslateSafe", spec := "translateSafe", inPlace := ["sync/atomic.LoadUint32", "(*internal/sync.Mutex).Lock", "internal/race.Disable", "sync/atomic.CompareAndSwapInt32", "internal/race.Enable", "internal/race.Acquire", "(*internal/sync.Mutex).lockSlow", "internal/sync.runtime_canSpin", "internal/sync.runtime_doSpin", "internal/sync.throw", "internal/sync.runtime_nanotime", "internal/sync.runtime_SemacquireMutex", "sync/atomic.AddInt32", "(*internal/sync.Mutex).Unlock", "internal/race.ReleaseMerge", "(*internal/sync.Mutex).unlockSlow", "internal/sync.fatal", "internal/sync.runtime_Semrelease", "sync/atomic.StoreUint32"], unfollowed := true, recurses := true, apart := false, narrowed := true }
def TranslateSafeUptoSaid : Prop := translateSafeUptoRow.holds Try.pinned (OpenSpec.upto translateSafeSpec)

/-- 'mummerlaw19.StubLeads', WHERE WHAT IT READS IS OF BULK AT MOST 1048576: true; the input reads as it did. -/
def stubLeadsUptoRow : OpenClaim := { program := "ytdchhkdgcjnhpaa", sum := "7bd078689e47382a62bbdf46ca62e72742846e0e31e430b0f17447342951f068", func := "mummer/mummerlaw19.StubLeads", spec := "stubLeads", unfollowed := true, recurses := true, apart := false, narrowed := true }
def StubLeadsUptoSaid : Prop := stubLeadsUptoRow.holds Try.pinned (OpenSpec.upto stubLeadsSpec)

/-- 'mummerlaw08.CoreNext', WHERE WHAT IT READS IS OF BULK AT MOST 1048576: true; the input reads as it did. -/
def coreNextUptoRow : OpenClaim := { program := "ytdchhkdgcjnhpaa", sum := "7bd078689e47382a62bbdf46ca62e72742846e0e31e430b0f17447342951f068", func := "mummer/mummerlaw08.CoreNext", spec := "coreNext", inPlace := ["sync/atomic.LoadUint32", "(*internal/sync.Mutex).Lock", "internal/race.Disable", "sync/atomic.CompareAndSwapInt32", "internal/race.Enable", "internal/race.Acquire", "(*internal/sync.Mutex).lockSlow", "internal/sync.runtime_canSpin", "internal/sync.runtime_doSpin", "internal/sync.throw", "internal/sync.runtime_nanotime", "internal/sync.runtime_SemacquireMutex", "sync/atomic.AddInt32", "(*internal/sync.Mutex).Unlock", "internal/race.ReleaseMerge", "(*internal/sync.Mutex).unlockSlow", "internal/sync.fatal", "internal/sync.runtime_Semrelease", "sync/atomic.StoreUint32"], unfollowed := true, recurses := true, apart := false, narrowed := true }
def CoreNextUptoSaid : Prop := coreNextUptoRow.holds Try.pinned (OpenSpec.upto coreNextSpec)

/-- 'mummerlaw08.CoreFails', WHERE WHAT IT READS IS OF BULK AT MOST 1048576: true; the input reads as it did. -/
def coreFailsUptoRow : OpenClaim := { program := "ytdchhkdgcjnhpaa", sum := "7bd078689e47382a62bbdf46ca62e72742846e0e31e430b0f17447342951f068", func := "mummer/mummerlaw08.CoreFails", spec := "coreFails", inPlace := ["sync/atomic.LoadUint32", "(*internal/sync.Mutex).Lock", "internal/race.Disable", "sync/atomic.CompareAndSwapInt32", "internal/race.Enable", "internal/race.Acquire", "(*internal/sync.Mutex).lockSlow", "internal/sync.runtime_canSpin", "internal/sync.runtime_doSpin", "internal/sync.throw", "internal/sync.runtime_nanotime", "internal/sync.runtime_SemacquireMutex", "sync/atomic.AddInt32", "(*internal/sync.Mutex).Unlock", "internal/race.ReleaseMerge", "(*internal/sync.Mutex).unlockSlow", "internal/sync.fatal", "internal/sync.runtime_Semrelease", "sync/atomic.StoreUint32"], unfollowed := true, recurses := true, apart := false, narrowed := true }
def CoreFailsUptoSaid : Prop := coreFailsUptoRow.holds Try.pinned (OpenSpec.upto coreFailsSpec)

/-- 'mummerlaw08.CoreWrites', WHERE WHAT IT READS IS OF BULK AT MOST 1048576: true; the input reads as it did. -/
def coreWritesUptoRow : OpenClaim := { program := "ytdchhkdgcjnhpaa", sum := "7bd078689e47382a62bbdf46ca62e72742846e0e31e430b0f17447342951f068", func := "mummer/mummerlaw08.CoreWrites", spec := "coreWrites", inPlace := ["sync/atomic.LoadUint32", "(*internal/sync.Mutex).Lock", "internal/race.Disable", "sync/atomic.CompareAndSwapInt32", "internal/race.Enable", "internal/race.Acquire", "(*internal/sync.Mutex).lockSlow", "internal/sync.runtime_canSpin", "internal/sync.runtime_doSpin", "internal/sync.throw", "internal/sync.runtime_nanotime", "internal/sync.runtime_SemacquireMutex", "sync/atomic.AddInt32", "(*internal/sync.Mutex).Unlock", "internal/race.ReleaseMerge", "(*internal/sync.Mutex).unlockSlow", "internal/sync.fatal", "internal/sync.runtime_Semrelease", "sync/atomic.StoreUint32"], unfollowed := true, recurses := true, apart := false, narrowed := true }
def CoreWritesUptoSaid : Prop := coreWritesUptoRow.holds Try.pinned (OpenSpec.upto coreWritesSpec)

/-- 'mummerlaw08.CoreReads', WHERE WHAT IT READS IS OF BULK AT MOST 1048576: true; the input reads as it did. -/
def coreReadsUptoRow : OpenClaim := { program := "ytdchhkdgcjnhpaa", sum := "7bd078689e47382a62bbdf46ca62e72742846e0e31e430b0f17447342951f068", func := "mummer/mummerlaw08.CoreReads", spec := "coreReads", inPlace := ["sync/atomic.LoadUint32", "(*internal/sync.Mutex).Lock", "internal/race.Disable", "sync/atomic.CompareAndSwapInt32", "internal/race.Enable", "internal/race.Acquire", "(*internal/sync.Mutex).lockSlow", "internal/sync.runtime_canSpin", "internal/sync.runtime_doSpin", "internal/sync.throw", "internal/sync.runtime_nanotime", "internal/sync.runtime_SemacquireMutex", "sync/atomic.AddInt32", "(*internal/sync.Mutex).Unlock", "internal/race.ReleaseMerge", "(*internal/sync.Mutex).unlockSlow", "internal/sync.fatal", "internal/sync.runtime_Semrelease", "sync/atomic.StoreUint32"], unfollowed := true, recurses := true, apart := false, narrowed := true }
def CoreReadsUptoSaid : Prop := coreReadsUptoRow.holds Try.pinned (OpenSpec.upto coreReadsSpec)

end Rows
end Go.Proofs.Ytdchhkdgcjnhpaa
