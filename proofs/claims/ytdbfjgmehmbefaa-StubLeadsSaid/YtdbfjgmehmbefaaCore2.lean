/- Package core: a processor's state. -/
import Derived.Test.YtdbfjgmehmbefaaCore1
import Derived.Test.YtdbfjgmehmbefaaRes
namespace Go.Proofs.Ytdbfjgmehmbefaa
open Go.RowKit

/-- A state in plain words. -/
structure St where
  R : Nat → Int
  pc : Int
  ps : Int
  C : Nat → Int
  hl : Bool

def stA (s : St) : Array Value :=
  #[.int .u32 (s.R 0), .int .u32 (s.R 1), .int .u32 (s.R 2), .int .u32 (s.R 3), .int .u32 (s.R 4), .int .u32 (s.R 5), .int .u32 (s.R 6), .int .u32 (s.R 7),
    .int .u32 s.pc, .int .u32 s.ps,
    .int .u32 (s.C 0), .int .u32 (s.C 1), .int .u32 (s.C 2), .int .u32 (s.C 3), .int .u32 (s.C 4), .int .u32 (s.C 5), .int .u32 (s.C 6), .int .u32 (s.C 7), .bool s.hl]

theorem block_new2 (w : World) (a b : Obj) : ((w.alloc a).alloc b).heap[w.heap.size + 1]? = some b := by
  have h := block_new (w.alloc a) b
  have e : (w.alloc a).heap.size = w.heap.size + 1 := by simp
  rwa [e] at h

set_option maxHeartbeats 1000000 in
theorem near_any (n m : Int) (s : St) (w : World) :
    Calls Try.prog 74 #[.agg #[.int .u32 n, .int .i32 m], .agg (stA s)] w fun e w' => e = .returned (.int .u32 (IntKind.u32.wrap (n + IntKind.u32.wrap m))) ∧ Same w w' := by
  go_enter Try.func74, Try.ntmps74
  go_wp2
  go_ret
  exact ⟨rfl, ((Keeps.refl _ _).alloc _).alloc _⟩
end Go.Proofs.Ytdbfjgmehmbefaa
