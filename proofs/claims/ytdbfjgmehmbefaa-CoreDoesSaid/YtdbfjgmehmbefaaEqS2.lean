/- '==' of equal states, as one operation. -/
import Derived.Test.YtdbfjgmehmbefaaEqS
namespace Go.Proofs.Ytdbfjgmehmbefaa
open Go.RowKit
def eqOp (t : TypeId) (x y : Operand) (a b : Value) : Sem Next := do pure (.value (← (do eqGuard .eql t x y a b; binOp .eql t a b)))
theorem x_eqS (ρ : Operand → Value) (dst : Option Tmp) (x y : Operand) (r ty : TypeId) (pos : String) (after : Array Edge) (guard : Option (Nat × Bool)) :
    execOp ρ { dst, op := .binOp .eql 25 x y r, type := ty, pos, after, guard } = eqOp 25 x y (ρ x) (ρ y) := rfl
theorem eqgS : Try.prog.eqGuardType Try.prog.depth 25 = false := by kernel_rfl
theorem eq_S (s : St) (x y : Operand) (w : World) : (eqOp 25 x y (.agg (stA s)) (.agg (stA s))).run Try.prog w = .ok (.value (.bool true)) w := by
  unfold eqOp
  simp only [Sem.run_bind, run_eqGuard_agg w .eql 25 x y _ _ eqgS, run_eqS, Result.andThen_ok, Sem.run_pure]
end Go.Proofs.Ytdbfjgmehmbefaa
