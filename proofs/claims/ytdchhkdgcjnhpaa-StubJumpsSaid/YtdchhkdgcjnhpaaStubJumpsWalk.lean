/- The walk of the statement StubJumps. -/
import Derived.Test.YtdchhkdgcjnhpaaStubB
import Derived.Test.YtdchhkdgcjnhpaaRead
namespace Go.Proofs.Ytdchhkdgcjnhpaa
open Go.RowKit

set_option maxHeartbeats 2000000 in
set_option maxRecDepth 100000 in
theorem stubJumps_walk (w : World) (x0 : Int) (h0 : RdV Try.prog w 3 [.int .i64 x0]) (x1 : Int) (h1 : RdV Try.prog w 3 [.int .i64 x1]) :
    Calls Try.prog 4 #[.int .i64 x0, .int .i64 x1] w fun e w' => e = .returned (.bool true) ∧ Below w.heap.size w w' := by
  obtain ⟨_, hx, l0, m0⟩ := RdV.int (k := .i64) h0 Try.underlying3
  cases hx
  obtain ⟨_, hx, l1, m1⟩ := RdV.int (k := .i64) h1 Try.underlying3
  cases hx
  simp [IntKind.min, IntKind.max, IntKind.bits, IntKind.signed] at l0 m0 l1 m1
  clear h0 h1
  have hn := fun w => run_convert_bytes_nil (P := Try.prog) w 22 5 Try.underlying22 Try.underlying5 0 0 9 Try.underlying9
  by_cases h : 0 ≤ x0 ∧ x0 ≤ 32767 ∧ 0 ≤ x1 ∧ x1 ≤ 32767
  · obtain ⟨a0, a1, b0, b1⟩ := h
    by_cases hf : x1 - x0 - 3 < -32768
    · go_enter Try.func4, Try.ntmps4
      go_wp2_with fail
      refine (jump_far x0 x1 a0 a1 b0 b1 hf _).mono ?_
      rintro e w1 ⟨rfl, hk⟩
      go_wp2_with fail
      refine (ref_jump_far x0 x1 a0 a1 b0 b1 hf _).mono ?_
      rintro e w2 ⟨rfl, hk2⟩
      go_wp2_with fail
      refine (works_19 _).mono ?_
      rintro e w3 ⟨rfl, hk3⟩
      go_wp2
      go_ret
      exact ⟨rfl, same_below ((hk.trans hk2).trans hk3)⟩
    · have hf' : -32768 ≤ x1 - x0 - 3 := by omega
      go_enter Try.func4, Try.ntmps4
      go_wp2_with fail
      refine (jump_yes x0 x1 a0 a1 b0 b1 hf' _).mono ?_
      rintro e w1 ⟨v, rfl, hv, hk⟩
      go_wp2_with fail
      refine (ref_jump_yes x0 x1 a0 a1 b0 b1 hf' _).mono ?_
      rintro e w2 ⟨v2, rfl, hv2, hk2⟩
      have hc := row_conv (owns_keeps hv hk2 (fun _ _ => id))
      have hc2 := row_conv hv2
      clear hv hv2 hn
      go_wp2_with fail
      refine (works_19 _).mono ?_
      rintro e w3 ⟨rfl, hk3⟩
      go_wp2
      go_ret
      exact ⟨rfl, same_below ((hk.trans hk2).trans hk3)⟩
  · go_enter Try.func4, Try.ntmps4
    go_wp2_with fail
    refine (jump_no x0 x1 (by omega) (by omega) (by omega) (by omega) h _).mono ?_
    rintro e w1 ⟨rfl, hk⟩
    go_wp2_with fail
    refine (ref_jump_no x0 x1 (by omega) (by omega) (by omega) (by omega) h _).mono ?_
    rintro e w2 ⟨rfl, hk2⟩
    go_wp2_with fail
    refine (works_19 _).mono ?_
    rintro e w3 ⟨rfl, hk3⟩
    go_wp2
    go_ret
    exact ⟨rfl, same_below ((hk.trans hk2).trans hk3)⟩
end Go.Proofs.Ytdchhkdgcjnhpaa
