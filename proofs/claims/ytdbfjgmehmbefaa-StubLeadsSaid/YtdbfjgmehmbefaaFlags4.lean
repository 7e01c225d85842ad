/- Package flags: conditions. -/
import Derived.Test.YtdbfjgmehmbefaaFlags3
namespace Go.Proofs.Ytdbfjgmehmbefaa
open Go.RowKit

def bitU (ps m : Int) : Bool := bits .and .u32 ps m != 0
/-- A condition of a status. -/
def holdsL (c ps : Int) : Bool :=
  if c = 0 then true else if c = 1 then bitU ps 16 else if c = 2 then !bitU ps 16 else if c = 3 then (bitU ps 32 != bitU ps 128) else if c = 4 then (bitU ps 32 == bitU ps 128)
  else if c = 5 then bitU ps 64 else if c = 6 then !bitU ps 64 else if c = 7 then bitU ps 128 else false
set_option maxHeartbeats 1000000 in
theorem holds_any (c ps : Int) (c0 : 0 ≤ c) (c1 : c ≤ 7) (w : World) :
    Calls Try.prog 73 #[.int .i64 c, .int .u32 ps] w fun e w' => e = .returned (.bool (holdsL c ps)) ∧ w' = w := by
  rcases (show c = 0 ∨ c = 1 ∨ c = 2 ∨ c = 3 ∨ c = 4 ∨ c = 5 ∨ c = 6 ∨ c = 7 by omega) with rfl | rfl | rfl | rfl | rfl | rfl | rfl | rfl
  all_goals
    go_enter Try.func73, Try.ntmps73
    go_wp2
    go_ret
    refine ⟨?_, rfl⟩
    first
      | (simp [holdsL, bitU]; done)
      | (simp only [holdsL, bitU]
         generalize (bits .and .u32 ps 32 != 0) = x
         generalize (bits .and .u32 ps 128 != 0) = y
         cases x <;> cases y <;> rfl)
end Go.Proofs.Ytdbfjgmehmbefaa
