/- Package core: the small functions. -/
import Derived.Test.YtdbfjgmehmbefaaFlags4
namespace Go.Proofs.Ytdbfjgmehmbefaa
open Go.RowKit

/-- How many bytes an operation of memory has. -/
def cszL (op : Int) : Int :=
  if op = 50 then 1 else if op = 51 then 1 else if op = 54 then 1 else if op = 52 then 2 else if op = 53 then 2 else if op = 55 then 2 else 4
set_option maxHeartbeats 1000000 in
theorem csize_any (op : Int) (w : World) :
    Calls Try.prog 34 #[.int .u8 op] w fun e w' => e = .returned (.int .i64 (cszL op)) ∧ w' = w := by
  by_cases h1 : op = 50
  · subst h1
    go_enter Try.func34, Try.ntmps34
    go_wp2
    go_ret
    exact ⟨rfl, rfl⟩
  by_cases h2 : op = 51
  · subst h2
    go_enter Try.func34, Try.ntmps34
    go_wp2
    go_ret
    exact ⟨rfl, rfl⟩
  by_cases h3 : op = 54
  · subst h3
    go_enter Try.func34, Try.ntmps34
    go_wp2
    go_ret
    exact ⟨rfl, rfl⟩
  by_cases h4 : op = 52
  · subst h4
    go_enter Try.func34, Try.ntmps34
    go_wp2
    go_ret
    exact ⟨rfl, rfl⟩
  by_cases h5 : op = 53
  · subst h5
    go_enter Try.func34, Try.ntmps34
    go_wp2
    go_ret
    exact ⟨rfl, rfl⟩
  by_cases h6 : op = 55
  · subst h6
    go_enter Try.func34, Try.ntmps34
    go_wp2
    go_ret
    exact ⟨rfl, rfl⟩
  have e1 : cszL op = 4 := by simp [cszL, h1, h2, h3, h4, h5, h6]
  rw [e1]
  go_enter Try.func34, Try.ntmps34
  go_wp2
  go_ret
  exact ⟨rfl, rfl⟩
end Go.Proofs.Ytdbfjgmehmbefaa
