/- The walks through package stub: reading. -/
import Derived.Test.YtomphgpplbekiaaGreatStubB
namespace Go.Proofs.YtomphgpplbekiaaGreat
open Go.RowKit

theorem block_alloc2 {w : World} {k : Nat} {x : Obj} (o : Obj) (h : w.heap[k]? = some x) : (w.alloc o).heap[k]? = some x := block_old o h
/-- What so many bytes are as a stub. -/
def readL (X : Nat → Int) (l : Nat) : Int × Int × Bool := if l = 5 ∧ X 0 = 112 ∧ X 2 = 113 then (X 1, X 3 + 256 * X 4, true) else (0, 0, false)
def readV (r : Int × Int × Bool) : Value := .tuple #[.int .i64 r.1, .int .i64 r.2.1, .bool r.2.2]
theorem dec_op (X : Nat → Int) (l : Nat) (op : Int) (h : X 0 ≠ op) : (decL X l true).2.2 ≠ 0 ∨ (decL X l true).1.op ≠ op := by
  unfold decL
  split
  · left; simp
  split
  · left; simp
  split
  · left; simp
  split
  · right; exact h
  · left; simp
theorem dec_112 (X : Nat → Int) (l : Nat) (h : X 0 = 112) (hl : 2 ≤ l) (x0 : 0 ≤ X 1) (x1 : X 1 < 256) : decL X l true = (In.mk 112 0 0 (X 1), 2, 0) := by
  have e : insOf X ⟨2, 0, 0, 1, 0⟩ = In.mk 112 0 0 (X 1) := by
    simp [insOf, leN, numL, h]
    omega
  simp only [decL, h, show formL 112 true = ⟨2, 0, 0, 1, 0⟩ from rfl, e, may_112 _ x0 (by omega)]
  rw [if_neg (by omega), if_neg (by omega), if_neg (by omega), if_pos trivial]
theorem dec_113 (X : Nat → Int) (l : Nat) (h : X 0 = 113) (hl : 3 ≤ l) (x0 : 0 ≤ X 1) (x1 : X 1 < 256) (y0 : 0 ≤ X 2) (y1 : X 2 < 256) : decL X l true = (In.mk 113 0 0 (X 1 + 256 * X 2), 3, 0) := by
  have e : insOf X ⟨3, 0, 0, 2, 0⟩ = In.mk 113 0 0 (X 1 + 256 * X 2) := by
    simp [insOf, leN, numL, h]
    omega
  simp only [decL, h, show formL 113 true = ⟨3, 0, 0, 2, 0⟩ from rfl, e, may_113 _ (show 0 ≤ X 1 + 256 * X 2 by omega) (by omega)]
  rw [if_neg (by omega), if_neg (by omega), if_neg (by omega), if_pos trivial]
theorem BySl.keeps {w w' : World} {a : Option Addr} {l : Nat} {X : Nat → Int} (h : BySl w a l X) (k : Same w w') : BySl w' a l X := by
  rcases h with h | ⟨S, o, h1, h2, h3⟩
  · exact .inl h
  · exact .inr ⟨S, o, h1, Nat.lt_of_lt_of_le h2 k.size, h3.keeps k id⟩
end Go.Proofs.YtomphgpplbekiaaGreat
