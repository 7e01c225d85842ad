/- The walk of the statement TlbSlots: it answers true, and turns nothing that was there. -/
import Derived.Test.YtebponllpjpbeaaTlbB
namespace Go.Proofs.Ytebponllpjpbeaa
open Go.RowKit

set_option maxHeartbeats 1000000 in
theorem tlbSlots_walk (w : World) (x0 : Int) (_ : RdV Try.prog w 3 [.int .i64 x0]) (x1 : Int) (h1 : RdV Try.prog w 22 [.int .u32 x1]) :
    Calls Try.prog 4 #[.int .i64 x0, .int .u32 x1] w fun e w' => e = .returned (.bool true) ∧ Below w.heap.size w w' := by
  obtain ⟨x, hx, b1, b2⟩ := h1.int Try.underlying22
  simp at hx; subst hx
  simp [IntKind.min, IntKind.max, IntKind.signed, IntKind.bits] at b1 b2
  clear h1
  by_cases hr : x0 < 1 ∨ 64 < x0
  · have ht : (x0 < 1) ∨ (¬ x0 < 1 ∧ 64 < x0) := by omega
    have HR := hidE  hr
    clear hr
    rcases ht with ht | ⟨ht1, ht⟩
    all_goals
      go_enter Try.func4, Try.ntmps4
      go_wp2_with fail
      refine (new_no x0 w HR.out).mono ?_
      rintro e w1 ⟨rfl, rfl⟩
      go_wp2_with fail
      refine (new_any 1 w (by omega) (by omega)).mono ?_
      rintro e w1 ⟨rfl, hk, hT⟩
      go_wp2
      go_ret
      exact ⟨rfl, same_below hk⟩
  · obtain ⟨n, rfl⟩ : ∃ n : Nat, x0 = n := ⟨x0.toNat, by omega⟩
    have hn : 0 < n := by omega
    have hn2 : n ≤ 64 := by omega
    clear hr
    go_enter Try.func4, Try.ntmps4
    go_wp2_with fail
    refine (new_any n w hn hn2).mono ?_
    rintro e w1 ⟨rfl, hk, hT⟩
    go_wp2_with fail
    refine (look_any _ _ n 0 0 x1 _ _ hn hn2 b1 (by omega) (by omega) (by omega) (by omega) (by omega) hT).mono ?_
    rintro e w2 ⟨hk2, hr⟩
    rw [if_neg (by simp [blankS])] at hr
    obtain ⟨rfl, hT2⟩ := hr
    go_wp2_with fail
    refine (counts_any _ _ n _ _ _ _ hn hT2).mono ?_
    rintro e w3 ⟨rfl, hk3⟩
    go_wp2
    go_ret
    refine ⟨rfl, (same_below hk).trans ?_⟩
    exact (Keeps.below hk2 hk.size (fun k hk' => by omega)).trans (Keeps.below hk3 (Nat.le_trans hk.size hk2.size) (fun _ _ => id))
end Go.Proofs.Ytebponllpjpbeaa
