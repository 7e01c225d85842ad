/- slices.Sort and slices.Compact of nothing. -/
import Derived.Test.YtomphgpplbekiaaGreatHeap
import Derived.Test.YtomphgpplbekiaaGreatRows
import Derived.WalkKit
import Derived.LoopTactic
import Derived.Test.YtomphgpplbekiaaGreatRa
namespace Go.Proofs.YtomphgpplbekiaaGreat
open Go.RowKit
set_option maxRecDepth 100000 in
theorem len64_0 (w : World) : Calls Tryz.prog 122 #[.int .u64 0] w fun e w' => e = .returned (.int .i64 0) ∧ w = w' := by
  go_enter Tryz.func122, Tryz.ntmps122
  go_wp2_with fail
  go_ret
  exact ⟨by kernel_rfl, rfl⟩
set_option maxRecDepth 100000 in
theorem len_0 (w : World) : Calls Tryz.prog 96 #[.int .u64 0] w fun e w' => e = .returned (.int .i64 0) ∧ w = w' := by
  go_enter Tryz.func96, Tryz.ntmps96
  go_wp2_with fail
  refine (len64_0 _).mono ?_
  rintro _ w1 ⟨rfl, rfl⟩
  go_wp2
  go_ret
  exact ⟨rfl, rfl⟩
theorem ins_0 (w : World) (p : Option Addr) (c : Nat) : Calls Tryz.prog 112 #[.slice p 0 c, .int .i64 0, .int .i64 0] w fun e w' => e = .returned (.tuple #[]) ∧ w = w' := by
  go_enter Tryz.func112, Tryz.ntmps112
  go_wp2_with fail
  go_loopw [6] (fun t6 wr => t6 = .int .i64 1 ∧ wr = w) (fun _ _ => 0)
  case atStart => exact ⟨rfl, rfl⟩
  case round =>
    obtain ⟨rfl, rfl⟩ := hrel
    go_wp2
    go_end0
    exact ⟨rfl, rfl⟩
set_option maxRecDepth 100000 in
theorem pdq_0 (w : World) (p : Option Addr) (c : Nat) : Calls Tryz.prog 95 #[.slice p 0 c, .int .i64 0, .int .i64 0, .int .i64 0] w fun e w' => e = .returned (.tuple #[]) ∧ w = w' := by
  go_enter Tryz.func95, Tryz.ntmps95
  go_wp2_with fail
  go_loopw [1, 2, 3] (fun t1 t2 t3 wr => t1 = .int .i64 0 ∧ t2 = .int .i64 0 ∧ t3 = .int .i64 0 ∧ wr = w) (fun _ _ _ _ => 0)
  case atStart => exact ⟨rfl, rfl, rfl, rfl⟩
  case round =>
    obtain ⟨rfl, rfl, rfl, rfl⟩ := hrel
    go_wp2_with fail
    refine (ins_0 _ _ _).mono ?_
    rintro _ w1 ⟨rfl, rfl⟩
    go_wp2
    (try simp only [Exit.inBlock, Exit.then])
    exact bodyPost_ret (results_none rfl _ _ _) rfl ⟨rfl, rfl⟩
theorem sort_0 (w : World) (p : Option Addr) (c : Nat) : Calls Tryz.prog 69 #[.slice p 0 c] w fun e w' => e = .returned (.tuple #[]) ∧ w = w' := by
  go_enter Tryz.func69, Tryz.ntmps69
  go_wp2_with fail
  refine (len_0 _).mono ?_
  rintro _ w1 ⟨rfl, rfl⟩
  go_wp2_with fail
  refine (pdq_0 _ _ _).mono ?_
  rintro _ w1 ⟨rfl, rfl⟩
  go_wp2
  go_end0
  exact ⟨rfl, rfl⟩
theorem compact_0 (w : World) (p : Option Addr) (c : Nat) : Calls Tryz.prog 70 #[.slice p 0 c] w fun e w' => e = .returned (.slice p 0 c) ∧ w = w' := by
  go_enter Tryz.func70, Tryz.ntmps70
  go_wp2_with fail
  go_ret
  exact ⟨rfl, rfl⟩
end Go.Proofs.YtomphgpplbekiaaGreat
