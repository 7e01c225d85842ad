/- Rows of instructions are compared, one by one: whole loads and comparisons of instructions and faults. -/
import Derived.Test.YtjkjnomhggmplaaGreatMade
import Derived.Laws.StructEq
namespace Go.Proofs.YtjkjnomhggmplaaGreat
open Go.RowKit

def neOp (t : TypeId) (x y : Operand) (a b : Value) : Sem Next := do pure (.value (← (do eqGuard .neq t x y a b; binOp .neq t a b)))
theorem x_neIn (ρ : Operand → Value) (dst : Option Tmp) (x y : Operand) (r ty : TypeId) (pos : String) (after : Array Edge) (guard : Option (Nat × Bool)) :
    execOp ρ { dst, op := .binOp .neq 67 x y r, type := ty, pos, after, guard } = neOp 67 x y (ρ x) (ρ y) := rfl
theorem x_neFl (ρ : Operand → Value) (dst : Option Tmp) (x y : Operand) (r ty : TypeId) (pos : String) (after : Array Edge) (guard : Option (Nat × Bool)) :
    execOp ρ { dst, op := .binOp .neq 42 x y r, type := ty, pos, after, guard } = neOp 42 x y (ρ x) (ρ y) := rfl
theorem x_ldFl (ρ : Operand → Value) (dst : Option Tmp) (x : Operand) (ty : TypeId) (pos : String) (after : Array Edge) (guard : Option (Nat × Bool)) :
    execOp ρ { dst, op := .load 42 x, type := ty, pos, after, guard } = ldRow 42 (ρ x) := rfl
theorem eqgIn : Tryz.prog.eqGuardType Tryz.prog.depth 67 = false := by kernel_rfl
theorem eqgFl : Tryz.prog.eqGuardType Tryz.prog.depth 42 = false := by kernel_rfl
theorem ne_In (a b c d : Int) (x y : Operand) (w : World) : (neOp 67 x y (.agg #[.int .u8 a, .int .u8 b, .int .u8 c, .int .i32 d]) (.agg #[.int .u8 a, .int .u8 b, .int .u8 c, .int .i32 d])).run Tryz.prog w = .ok (.value (.bool false)) w := by
  have h : (binOp .neq 67 (.agg #[.int .u8 a, .int .u8 b, .int .u8 c, .int .i32 d]) (.agg #[.int .u8 a, .int .u8 b, .int .u8 c, .int .i32 d])).run Tryz.prog w = .ok (.bool false) w := by
    rw [run_neq_struct, run_equalIn_struct w 9999 67 _ _ (by kernel_rfl) (by kernel_rfl)]
    go_simp
  unfold neOp
  simp only [Sem.run_bind, run_eqGuard_agg w .neq 67 x y _ _ eqgIn, h, Result.andThen_ok, Sem.run_pure]
theorem ne_Fl (a b : Int) (x y : Operand) (w : World) : (neOp 42 x y (.agg #[.int .i64 a, .int .u32 b]) (.agg #[.int .i64 a, .int .u32 b])).run Tryz.prog w = .ok (.value (.bool false)) w := by
  have h : (binOp .neq 42 (.agg #[.int .i64 a, .int .u32 b]) (.agg #[.int .i64 a, .int .u32 b])).run Tryz.prog w = .ok (.bool false) w := by
    rw [run_neq_struct, run_equalIn_struct w 9999 42 _ _ (by kernel_rfl) (by kernel_rfl)]
    go_simp
  unfold neOp
  simp only [Sem.run_bind, run_eqGuard_agg w .neq 42 x y _ _ eqgFl, h, Result.andThen_ok, Sem.run_pure]
theorem ld_Fl {w : World} {g : Nat} {a b : Int} (hb : w.heap[g]? = some (.cells #[.int .i64 a, .int .u32 b] 42 (0, 0))) :
    (ldRow 42 (.pointer (some ⟨g, 0, none⟩))).run Tryz.prog w = .ok (.value (.agg #[.int .i64 a, .int .u32 b])) w := by
  have h := ldRow_run (P := Tryz.prog) w 42 g 1 _ Tryz.underlying42 rfl (by kernel_rfl) (by rw [rowAt_of hb]; rfl)
  rw [rowAt_of hb] at h
  exact h
/-- An instruction in a row of them. -/
theorem ld_InAt {w : World} {g o : Nat} {a b c d : Int} (h0 : w.cell? ⟨g, o, none⟩ = some (.int .u8 a)) (h1 : w.cell? ⟨g, o + 1, none⟩ = some (.int .u8 b)) (h2 : w.cell? ⟨g, o + 2, none⟩ = some (.int .u8 c)) (h3 : w.cell? ⟨g, o + 3, none⟩ = some (.int .i32 d)) :
    (ldRow 67 (.pointer (some ⟨g, o, none⟩))).run Tryz.prog w = .ok (.value (.agg #[.int .u8 a, .int .u8 b, .int .u8 c, .int .i32 d])) w := by
  have hl : (loadCells ⟨g, o, none⟩ 4).run Tryz.prog w = .ok #[.int .u8 a, .int .u8 b, .int .u8 c, .int .i32 d] w :=
    run_loadCells_list (P := Tryz.prog) w ⟨g, o, none⟩ [.int .u8 a, .int .u8 b, .int .u8 c, .int .i32 d] (fun j v hv => by
      rw [Addr.add_lit]
      rcases j with _ | _ | _ | _ | j
      · simp at hv; subst hv; exact h0
      · simp at hv; subst hv; exact h1
      · simp at hv; subst hv; exact h2
      · simp at hv; subst hv; exact h3
      · simp at hv)
  have hq : ∃ i, Tryz.prog.info? 67 = some i ∧ i.size = 4 := by
    have h : (Tryz.prog.info? 67).map (·.size) = some 4 := by kernel_rfl
    cases hq : Tryz.prog.info? 67 with
    | none => rw [hq] at h; cases h
    | some i => rw [hq] at h; simp at h; exact ⟨i, rfl, h⟩
  obtain ⟨i, hq, hi⟩ := hq
  have hagg : (isAgg 67).run Tryz.prog w = .ok true w := by
    unfold isAgg
    rw [Sem.run_bind, run_underlying Tryz.underlying67 w]
    rfl
  have h : (loadVar 67 ⟨g, o, none⟩).run Tryz.prog w = .ok (.agg #[.int .u8 a, .int .u8 b, .int .u8 c, .int .i32 d]) w := by
    simp [loadVar, Sem.run_bind, hagg, sizeOf, typeInfo, hq, hi, hl]
  simp only [ldRow, Instr.loadAt, Instr.sureAddr, Sem.run_bind, Sem.run_pure, Result.andThen_ok, h]
end Go.Proofs.YtjkjnomhggmplaaGreat
