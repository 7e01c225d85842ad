/- Equal states are equal. -/
import Derived.Test.YtdbfjgmehmbefaaState
import Derived.Test.YtdbfjgmehmbefaaArr
import Derived.Laws.StructEq
namespace Go.Proofs.Ytdbfjgmehmbefaa
open Go.RowKit

theorem eqInts_refl : ∀ l : List Int, eqInts l l = true
  | [] => rfl
  | a :: l => by simp [eqInts, eqInts_refl l]
theorem run_eq_8 (d : Nat) (a0 a1 a2 a3 a4 a5 a6 a7 : Int) (w : World) :
    (Op.equalIn (d + 2) 23 (.agg #[.int .u32 a0, .int .u32 a1, .int .u32 a2, .int .u32 a3, .int .u32 a4, .int .u32 a5, .int .u32 a6, .int .u32 a7]) (.agg #[.int .u32 a0, .int .u32 a1, .int .u32 a2, .int .u32 a3, .int .u32 a4, .int .u32 a5, .int .u32 a6, .int .u32 a7])).run Try.prog w = .ok true w := by
  obtain ⟨i0, hi, _, hs, _⟩ := info_parts (show (Try.prog.info? 22).map (fun i => (i.zero, i.size, i.bytes)) = some (some (.int .u32 0), 1, 4) by kernel_rfl)
  have h := run_equalIn_array (P := Try.prog) w (d + 1) #[.int .u32 a0, .int .u32 a1, .int .u32 a2, .int .u32 a3, .int .u32 a4, .int .u32 a5, .int .u32 a6, .int .u32 a7] #[.int .u32 a0, .int .u32 a1, .int .u32 a2, .int .u32 a3, .int .u32 a4, .int .u32 a5, .int .u32 a6, .int .u32 a7] Try.underlying23 hi
  rw [hs] at h
  rw [h]
  have h2 := run_eqElems_ints (P := Try.prog) w d Try.underlying22 [a0, a1, a2, a3, a4, a5, a6, a7] [a0, a1, a2, a3, a4, a5, a6, a7] #[.int .u32 a0, .int .u32 a1, .int .u32 a2, .int .u32 a3, .int .u32 a4, .int .u32 a5, .int .u32 a6, .int .u32 a7] #[.int .u32 a0, .int .u32 a1, .int .u32 a2, .int .u32 a3, .int .u32 a4, .int .u32 a5, .int .u32 a6, .int .u32 a7] 0 rfl
    (fun j hj => by
      simp at hj
      rcases (show j = 0 ∨ j = 1 ∨ j = 2 ∨ j = 3 ∨ j = 4 ∨ j = 5 ∨ j = 6 ∨ j = 7 by omega) with rfl | rfl | rfl | rfl | rfl | rfl | rfl | rfl <;> rfl)
    (fun j hj => by
      simp at hj
      rcases (show j = 0 ∨ j = 1 ∨ j = 2 ∨ j = 3 ∨ j = 4 ∨ j = 5 ∨ j = 6 ∨ j = 7 by omega) with rfl | rfl | rfl | rfl | rfl | rfl | rfl | rfl <;> rfl)
  rw [eqInts_refl] at h2
  exact h2
set_option maxHeartbeats 2000000 in
set_option maxRecDepth 100000 in
theorem run_eqS (s : St) (w : World) : (binOp .eql 25 (.agg (stA s)) (.agg (stA s))).run Try.prog w = .ok (.bool true) w := by
  rw [run_eql_struct, run_equalIn_struct w 9999 25 _ _ (by kernel_rfl) (by kernel_rfl)]
  unfold stA
  have h1 := run_eq_8 9997 (s.R 0) (s.R 1) (s.R 2) (s.R 3) (s.R 4) (s.R 5) (s.R 6) (s.R 7)
  have h2 := run_eq_8 9997 (s.C 0) (s.C 1) (s.C 2) (s.C 3) (s.C 4) (s.C 5) (s.C 6) (s.C 7)
  go_simp
  done
end Go.Proofs.Ytdbfjgmehmbefaa
