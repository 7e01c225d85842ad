/- '==' of equal accesses and faults. -/
import Derived.Test.YtdbfjgmehmbefaaEqS2
namespace Go.Proofs.Ytdbfjgmehmbefaa
open Go.RowKit
theorem x_eqF2 (ρ : Operand → Value) (dst : Option Tmp) (x y : Operand) (r ty : TypeId) (pos : String) (after : Array Edge) (guard : Option (Nat × Bool)) :
    execOp ρ { dst, op := .binOp .eql 31 x y r, type := ty, pos, after, guard } = eqOp 31 x y (ρ x) (ρ y) := rfl
theorem eqgF2 : Try.prog.eqGuardType Try.prog.depth 31 = false := by kernel_rfl
theorem run_eqF2 (s : Fl) (w : World) : (binOp .eql 31 (.agg (flA s)) (.agg (flA s))).run Try.prog w = .ok (.bool true) w := by
  rw [run_eql_struct, run_equalIn_struct w 9999 31 _ _ (by kernel_rfl) (by kernel_rfl)]
  unfold flA
  go_simp
theorem eq_F2 (s : Fl) (x y : Operand) (w : World) : (eqOp 31 x y (.agg (flA s)) (.agg (flA s))).run Try.prog w = .ok (.value (.bool true)) w := by
  unfold eqOp
  simp only [Sem.run_bind, run_eqGuard_agg w .eql 31 x y _ _ eqgF2, run_eqF2, Result.andThen_ok, Sem.run_pure]
theorem x_eqA2 (ρ : Operand → Value) (dst : Option Tmp) (x y : Operand) (r ty : TypeId) (pos : String) (after : Array Edge) (guard : Option (Nat × Bool)) :
    execOp ρ { dst, op := .binOp .eql 29 x y r, type := ty, pos, after, guard } = eqOp 29 x y (ρ x) (ρ y) := rfl
theorem eqgA2 : Try.prog.eqGuardType Try.prog.depth 29 = false := by kernel_rfl
theorem run_eqA2 (s : Ac) (w : World) : (binOp .eql 29 (.agg (acA s)) (.agg (acA s))).run Try.prog w = .ok (.bool true) w := by
  rw [run_eql_struct, run_equalIn_struct w 9999 29 _ _ (by kernel_rfl) (by kernel_rfl)]
  unfold acA
  go_simp
theorem eq_A2 (s : Ac) (x y : Operand) (w : World) : (eqOp 29 x y (.agg (acA s)) (.agg (acA s))).run Try.prog w = .ok (.value (.bool true)) w := by
  unfold eqOp
  simp only [Sem.run_bind, run_eqGuard_agg w .eql 29 x y _ _ eqgA2, run_eqA2, Result.andThen_ok, Sem.run_pure]
end Go.Proofs.Ytdbfjgmehmbefaa
