/- Comparisons of keys, rows and outs. A law's argument: a step, opened; a key. -/
import Derived.Test.YtomphgpplbekiaaGreatRows
import Derived.Test.YtomphgpplbekiaaGreatRa
import Derived.Laws.StructEq
import Derived.Test.YtomphgpplbekiaaGreatCm
namespace Go.Proofs.YtomphgpplbekiaaGreat
open Go.RowKit

def neOp (t : TypeId) (x y : Operand) (a b : Value) : Sem Next := do pure (.value (← (do eqGuard .neq t x y a b; binOp .neq t a b)))
def eqOp (t : TypeId) (x y : Operand) (a b : Value) : Sem Next := do pure (.value (← (do eqGuard .eql t x y a b; binOp .eql t a b)))
theorem x_neKy (ρ : Operand → Value) (dst : Option Tmp) (x y : Operand) (r ty : TypeId) (pos : String) (after : Array Edge) (guard : Option (Nat × Bool)) :
    execOp ρ { dst, op := .binOp .neq 31 x y r, type := ty, pos, after, guard } = neOp 31 x y (ρ x) (ρ y) := rfl
theorem x_neRw (ρ : Operand → Value) (dst : Option Tmp) (x y : Operand) (r ty : TypeId) (pos : String) (after : Array Edge) (guard : Option (Nat × Bool)) :
    execOp ρ { dst, op := .binOp .neq 49 x y r, type := ty, pos, after, guard } = neOp 49 x y (ρ x) (ρ y) := rfl
theorem x_neOu (ρ : Operand → Value) (dst : Option Tmp) (x y : Operand) (r ty : TypeId) (pos : String) (after : Array Edge) (guard : Option (Nat × Bool)) :
    execOp ρ { dst, op := .binOp .neq 43 x y r, type := ty, pos, after, guard } = neOp 43 x y (ρ x) (ρ y) := rfl
theorem x_eqKy (ρ : Operand → Value) (dst : Option Tmp) (x y : Operand) (r ty : TypeId) (pos : String) (after : Array Edge) (guard : Option (Nat × Bool)) :
    execOp ρ { dst, op := .binOp .eql 31 x y r, type := ty, pos, after, guard } = eqOp 31 x y (ρ x) (ρ y) := rfl
theorem x_eqRw (ρ : Operand → Value) (dst : Option Tmp) (x y : Operand) (r ty : TypeId) (pos : String) (after : Array Edge) (guard : Option (Nat × Bool)) :
    execOp ρ { dst, op := .binOp .eql 49 x y r, type := ty, pos, after, guard } = eqOp 49 x y (ρ x) (ρ y) := rfl
theorem x_eqOu (ρ : Operand → Value) (dst : Option Tmp) (x y : Operand) (r ty : TypeId) (pos : String) (after : Array Edge) (guard : Option (Nat × Bool)) :
    execOp ρ { dst, op := .binOp .eql 43 x y r, type := ty, pos, after, guard } = eqOp 43 x y (ρ x) (ρ y) := rfl
theorem eqgKy : Tryz.prog.eqGuardType Tryz.prog.depth 31 = false := by kernel_rfl
theorem eqgRw : Tryz.prog.eqGuardType Tryz.prog.depth 49 = false := by kernel_rfl
theorem eqgOu : Tryz.prog.eqGuardType Tryz.prog.depth 43 = false := by kernel_rfl
def same2 (a b c d : Int) : Bool := a == c && b == d
def same4 (a b c d e f g h : Int) : Bool := a == e && (b == f && (c == g && d == h))
theorem eqi_Ky (a b c d : Int) (w : World) : (Op.equalIn 10000 31 (.agg #[.int .u32 a, .int .u32 b]) (.agg #[.int .u32 c, .int .u32 d])).run Tryz.prog w = .ok (same2 a b c d) w := by
  rw [run_equalIn_struct w 9999 31 _ _ (by kernel_rfl) (by kernel_rfl)]
  unfold same2
  cases h1 : (a == c) <;> cases h2 : (b == d) <;> go_simp
theorem eqi_Rw (a b c d e f g h : Int) (w : World) : (Op.equalIn 10000 49 (.agg #[.int .i64 a, .int .u32 b, .int .i64 c, .int .i64 d]) (.agg #[.int .i64 e, .int .u32 f, .int .i64 g, .int .i64 h])).run Tryz.prog w = .ok (same4 a b c d e f g h) w := by
  rw [run_equalIn_struct w 9999 49 _ _ (by kernel_rfl) (by kernel_rfl)]
  unfold same4
  cases h1 : (a == e) <;> cases h2 : (b == f) <;> cases h3 : (c == g) <;> cases h4 : (d == h) <;> go_simp
theorem eqi_Ou (a b c d e f g h : Int) (w : World) : (Op.equalIn 10000 43 (.agg #[.int .u32 a, .int .u32 b, .int .i64 c, .int .u32 d]) (.agg #[.int .u32 e, .int .u32 f, .int .i64 g, .int .u32 h])).run Tryz.prog w = .ok (same4 a b c d e f g h) w := by
  rw [run_equalIn_struct w 9999 43 _ _ (by kernel_rfl) (by kernel_rfl)]
  have hk := fun w => run_equalIn_struct (P := Tryz.prog) w 9998 31 #[.int .u32 a, .int .u32 b] #[.int .u32 e, .int .u32 f] (by kernel_rfl) (by kernel_rfl)
  unfold same4
  cases h1 : (a == e) <;> cases h2 : (b == f) <;> cases h3 : (c == g) <;> cases h4 : (d == h) <;> go_simp
theorem ne_Ky (a b c d : Int) (x y : Operand) (w : World) : (neOp 31 x y (.agg #[.int .u32 a, .int .u32 b]) (.agg #[.int .u32 c, .int .u32 d])).run Tryz.prog w = .ok (.value (.bool (!same2 a b c d))) w := by
  have hh : (binOp .neq 31 (.agg #[.int .u32 a, .int .u32 b]) (.agg #[.int .u32 c, .int .u32 d])).run Tryz.prog w = .ok (.bool (!same2 a b c d)) w := by
    rw [run_neq_struct, eqi_Ky]; rfl
  unfold neOp
  simp only [Sem.run_bind, run_eqGuard_agg w .neq 31 x y _ _ eqgKy, hh, Result.andThen_ok, Sem.run_pure]
theorem eq_Ky (a b c d : Int) (x y : Operand) (w : World) : (eqOp 31 x y (.agg #[.int .u32 a, .int .u32 b]) (.agg #[.int .u32 c, .int .u32 d])).run Tryz.prog w = .ok (.value (.bool (same2 a b c d))) w := by
  have hh : (binOp .eql 31 (.agg #[.int .u32 a, .int .u32 b]) (.agg #[.int .u32 c, .int .u32 d])).run Tryz.prog w = .ok (.bool (same2 a b c d)) w := by
    rw [run_eql_struct, eqi_Ky]; rfl
  unfold eqOp
  simp only [Sem.run_bind, run_eqGuard_agg w .eql 31 x y _ _ eqgKy, hh, Result.andThen_ok, Sem.run_pure]
theorem ne_Rw (a b c d e f g h : Int) (x y : Operand) (w : World) : (neOp 49 x y (.agg #[.int .i64 a, .int .u32 b, .int .i64 c, .int .i64 d]) (.agg #[.int .i64 e, .int .u32 f, .int .i64 g, .int .i64 h])).run Tryz.prog w = .ok (.value (.bool (!same4 a b c d e f g h))) w := by
  have hh : (binOp .neq 49 (.agg #[.int .i64 a, .int .u32 b, .int .i64 c, .int .i64 d]) (.agg #[.int .i64 e, .int .u32 f, .int .i64 g, .int .i64 h])).run Tryz.prog w = .ok (.bool (!same4 a b c d e f g h)) w := by
    rw [run_neq_struct, eqi_Rw]; rfl
  unfold neOp
  simp only [Sem.run_bind, run_eqGuard_agg w .neq 49 x y _ _ eqgRw, hh, Result.andThen_ok, Sem.run_pure]
theorem eq_Rw (a b c d e f g h : Int) (x y : Operand) (w : World) : (eqOp 49 x y (.agg #[.int .i64 a, .int .u32 b, .int .i64 c, .int .i64 d]) (.agg #[.int .i64 e, .int .u32 f, .int .i64 g, .int .i64 h])).run Tryz.prog w = .ok (.value (.bool (same4 a b c d e f g h))) w := by
  have hh : (binOp .eql 49 (.agg #[.int .i64 a, .int .u32 b, .int .i64 c, .int .i64 d]) (.agg #[.int .i64 e, .int .u32 f, .int .i64 g, .int .i64 h])).run Tryz.prog w = .ok (.bool (same4 a b c d e f g h)) w := by
    rw [run_eql_struct, eqi_Rw]; rfl
  unfold eqOp
  simp only [Sem.run_bind, run_eqGuard_agg w .eql 49 x y _ _ eqgRw, hh, Result.andThen_ok, Sem.run_pure]
theorem ne_Ou (a b c d e f g h : Int) (x y : Operand) (w : World) : (neOp 43 x y (.agg #[.int .u32 a, .int .u32 b, .int .i64 c, .int .u32 d]) (.agg #[.int .u32 e, .int .u32 f, .int .i64 g, .int .u32 h])).run Tryz.prog w = .ok (.value (.bool (!same4 a b c d e f g h))) w := by
  have hh : (binOp .neq 43 (.agg #[.int .u32 a, .int .u32 b, .int .i64 c, .int .u32 d]) (.agg #[.int .u32 e, .int .u32 f, .int .i64 g, .int .u32 h])).run Tryz.prog w = .ok (.bool (!same4 a b c d e f g h)) w := by
    rw [run_neq_struct, eqi_Ou]; rfl
  unfold neOp
  simp only [Sem.run_bind, run_eqGuard_agg w .neq 43 x y _ _ eqgOu, hh, Result.andThen_ok, Sem.run_pure]
theorem eq_Ou (a b c d e f g h : Int) (x y : Operand) (w : World) : (eqOp 43 x y (.agg #[.int .u32 a, .int .u32 b, .int .i64 c, .int .u32 d]) (.agg #[.int .u32 e, .int .u32 f, .int .i64 g, .int .u32 h])).run Tryz.prog w = .ok (.value (.bool (same4 a b c d e f g h))) w := by
  have hh : (binOp .eql 43 (.agg #[.int .u32 a, .int .u32 b, .int .i64 c, .int .u32 d]) (.agg #[.int .u32 e, .int .u32 f, .int .i64 g, .int .u32 h])).run Tryz.prog w = .ok (.bool (same4 a b c d e f g h)) w := by
    rw [run_eql_struct, eqi_Ou]; rfl
  unfold eqOp
  simp only [Sem.run_bind, run_eqGuard_agg w .eql 43 x y _ _ eqgOu, hh, Result.andThen_ok, Sem.run_pure]
theorem same2_self (a b : Int) : same2 a b a b = true := by simp [same2]
theorem same4_self (a b c d : Int) : same4 a b c d a b c d = true := by simp [same4]
end Go.Proofs.YtomphgpplbekiaaGreat
namespace Go.Proofs.YtomphgpplbekiaaGreat
open Go.RowKit

theorem list11 {α : Type} {l : List α} (h : l.length = 11) : ∃ a b c d e f g i j k m, l = [a, b, c, d, e, f, g, i, j, k, m] := by
  match l, h with
  | [a, b, c, d, e, f, g, i, j, k, m], _ => exact ⟨a, b, c, d, e, f, g, i, j, k, m, rfl⟩
theorem list2 {α : Type} {l : List α} (h : l.length = 2) : ∃ a b, l = [a, b] := by
  match l, h with
  | [a, b], _ => exact ⟨a, b, rfl⟩
theorem key_open {w : World} {l : List Value} (h : RdV Tryz.prog w 31 l) : ∃ k1 k2 : Int, l = [.int .u32 k1, .int .u32 k2] ∧ 0 ≤ k1 ∧ k1 < 4294967296 ∧ 0 ≤ k2 ∧ k2 < 4294967296 := by
  obtain ⟨h1, h2⟩ := h.struct Tryz.underlying31
  rw [show Tryz.prog.cellsOf 31 = 2 from by kernel_rfl] at h1
  obtain ⟨c0, c1, rfl⟩ := list2 h1
  have k3 : Tryz.prog.cellsOf 29 = 1 := by kernel_rfl
  simp [k3] at h2
  obtain ⟨g0, g1⟩ := h2
  obtain ⟨x2, e2, a2, b2⟩ := g0.int (k := .u32) Tryz.underlying29
  obtain ⟨x3, e3, a3, b3⟩ := g1.int (k := .u32) Tryz.underlying29
  simp at e2 e3
  subst e2 e3
  simp [IntKind.min, IntKind.max, IntKind.bits, IntKind.signed] at a2 b2 a3 b3
  exact ⟨x2, x3, rfl, a2, by omega, a3, by omega⟩
theorem bkf_open {w : World} {l : List Value} (h : RdV Tryz.prog w 36 l) : ∃ (b : Bk) (xs : List Int), l = (bkA b).toList ∧ b.Ok w ∧ IntSl w b.fr xs := by
  obtain ⟨b, e, hb⟩ := bk_open (s := l.toArray) h
  have e' : l = (bkA b).toList := by rw [← e]
  subst e'
  obtain ⟨h1, h2⟩ := h.struct Tryz.underlying36
  have k1 : Tryz.prog.cellsOf 32 = 1 := by kernel_rfl
  have k2 : Tryz.prog.cellsOf 33 = 1 := by kernel_rfl
  have k3 : Tryz.prog.cellsOf 29 = 1 := by kernel_rfl
  have k4 : Tryz.prog.cellsOf 3 = 1 := by kernel_rfl
  have k5 : Tryz.prog.cellsOf 34 = 1 := by kernel_rfl
  simp [k1, k2, k3, k4, k5, bkA] at h2
  obtain ⟨-, -, -, -, -, g5, -⟩ := h2
  obtain ⟨xs, hx, -⟩ := intSl_open g5
  exact ⟨b, xs, rfl, hb, hx⟩
def stepA (kd n k1 k2 : Int) (b : Bk) : Array Value := #[.int .i64 kd, .int .i64 n, .int .u32 k1, .int .u32 k2, .slice b.ia b.n b.cn, .slice b.aa b.m b.cm, .int .u32 b.next, .int .u32 b.to, .int .i64 b.fin, b.fr, b.tb]
structure StepOk (w : World) (kd n k1 k2 : Int) (b : Bk) (xs : List Int) : Prop where
  n0 : -9223372036854775808 ≤ n
  n1 : n ≤ 9223372036854775807
  a0 : 0 ≤ k1
  a1 : k1 < 4294967296
  b0 : 0 ≤ k2
  b1 : k2 < 4294967296
  blk : b.Ok w
  frs : IntSl w b.fr xs
theorem step_open {w : World} {l : List Value} (h : RdV Tryz.prog w 38 l) : ∃ (kd n k1 k2 : Int) (b : Bk) (xs : List Int), l = (stepA kd n k1 k2 b).toList ∧ StepOk w kd n k1 k2 b xs := by
  obtain ⟨h1, h2⟩ := h.struct Tryz.underlying38
  rw [show Tryz.prog.cellsOf 38 = 11 from by kernel_rfl] at h1
  obtain ⟨c0, c1, c2, c3, c4, c5, c6, c7, c8, c9, c10, rfl⟩ := list11 h1
  have k4 : Tryz.prog.cellsOf 3 = 1 := by kernel_rfl
  have k6 : Tryz.prog.cellsOf 31 = 2 := by kernel_rfl
  have k7 : Tryz.prog.cellsOf 36 = 7 := by kernel_rfl
  simp [k4, k6, k7] at h2
  obtain ⟨g0, g1, g2, g3⟩ := h2
  obtain ⟨x0, e0, -, -⟩ := g0.int (k := .i64) Tryz.underlying3
  obtain ⟨x1, e1, a1, b1⟩ := g1.int (k := .i64) Tryz.underlying3
  obtain ⟨k1, k2, e2, p0, p1, p2, p3⟩ := key_open g2
  obtain ⟨b, xs, e3, hb, hx⟩ := bkf_open g3
  simp [bkA] at e0 e1 e2 e3
  obtain ⟨rfl, rfl⟩ := e2
  obtain ⟨rfl, rfl, rfl, rfl, rfl, rfl, rfl⟩ := e3
  subst e0 e1
  simp [IntKind.min, IntKind.max, IntKind.bits, IntKind.signed] at a1 b1
  exact ⟨x0, x1, k1, k2, b, xs, rfl, ⟨by omega, by omega, p0, p1, p2, p3, hb, hx⟩⟩
end Go.Proofs.YtomphgpplbekiaaGreat
