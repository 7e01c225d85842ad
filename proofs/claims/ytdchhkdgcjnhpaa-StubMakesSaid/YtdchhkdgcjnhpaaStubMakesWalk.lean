/- The walk of the statement StubMakes. -/
import Derived.Test.YtdchhkdgcjnhpaaStubB
import Derived.Test.YtdchhkdgcjnhpaaRead
import Derived.Deep.RegionHeld3
import Derived.Deep.DrawnRows
namespace Go.Proofs.Ytdchhkdgcjnhpaa
open Go.RowKit
attribute [local go_sem ↓] Go.wp_at_zero Go.wp_at_succ

set_option maxHeartbeats 2000000 in
set_option maxRecDepth 100000 in
theorem stubMakes_walk (w : World) (x0 : Int) (h0 : RdV Try.prog w 3 [.int .i64 x0]) (x1 : Int) (h1 : RdV Try.prog w 3 [.int .i64 x1]) :
    Calls Try.prog 3 #[.int .i64 x0, .int .i64 x1] w fun e w' => e = .returned (.bool true) ∧ Below w.heap.size w w' := by
  obtain ⟨_, hx, l0, m0⟩ := RdV.int (k := .i64) h0 Try.underlying3
  cases hx
  obtain ⟨_, hx, l1, m1⟩ := RdV.int (k := .i64) h1 Try.underlying3
  cases hx
  simp [IntKind.min, IntKind.max, IntKind.bits, IntKind.signed] at l0 m0 l1 m1
  clear h0 h1
  by_cases h : 0 ≤ x0 ∧ x0 ≤ 255 ∧ 0 ≤ x1 ∧ x1 ≤ 65535
  · obtain ⟨a0, a1, b0, b1⟩ := h
    go_enter Try.func3, Try.ntmps3
    go_wp2_with fail
    refine (stub_yes x0 x1 a0 a1 b0 b1 _).mono ?_
    rintro e w1 ⟨v, rfl, hv, hk⟩
    have hc := row_conv hv
    have HV := hidE  hv
    have hc' : (convert 22 9 v).run Try.prog w1.drew = .ok (.string (strOfNums (stubL x0 x1))) w1.drew := row_conv (w := w1.drew) hv
    clear hv
    go_wp2_with fail
    go_region_with (first
      | (go_at_call 22; refine (ref_stub x0 x1 a0 a1 b0 b1 _).mono ?_; rintro e w2 ⟨v2, rfl, hv2, hk2⟩; have hc2 := row_conv hv2; have hc3 := row_conv (owns_keeps (w := w1.drew) HV.out hk2 (fun _ _ => id)); have HK2 := hidE hk2; clear hv2 hk2)
      | (go_at_call 21; refine (works_19 _).mono ?_; rintro e w3 ⟨rfl, hk3⟩))
    all_goals go_wp2
    all_goals go_ret
    all_goals exact ⟨rfl, same_below (((hk.drew).trans HK2.out).trans hk3)⟩
  · go_enter Try.func3, Try.ntmps3
    go_wp2_with fail
    refine (stub_no x0 x1 (by omega) (by omega) (by omega) (by omega) h _).mono ?_
    rintro e w1 ⟨rfl, hk⟩
    by_cases c1 : x0 < 0 <;> by_cases c2 : 255 < x0 <;> by_cases c3 : x1 < 0 <;> by_cases c4 : 65535 < x1 <;> first | (exfalso; omega) | skip
    all_goals
      go_wp2_with fail
      refine (works_19 _).mono ?_
      rintro e w2 ⟨rfl, hk2⟩
      go_wp2
      go_ret
      exact ⟨rfl, same_below (hk.trans hk2)⟩
end Go.Proofs.Ytdchhkdgcjnhpaa
