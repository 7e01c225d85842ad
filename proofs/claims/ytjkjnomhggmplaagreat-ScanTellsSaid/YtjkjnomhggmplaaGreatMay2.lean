/- The reference's May is isa's. -/
import Derived.Test.YtjkjnomhggmplaaGreatOf2
import Derived.Test.YtjkjnomhggmplaaGreatIsaB
namespace Go.Proofs.YtjkjnomhggmplaaGreat
open Go.RowKit

def jOf : Nat → Nat
  | 0 => 1 | 1 => 4 | 2 => 3 | 3 => 2 | 4 => 7 | 5 => 8 | 6 => 6 | 7 => 5 | 8 => 9 | _ => 0
theorem j_all : ∀ n : Fin 256, ∀ h : Bool, of2J (n.val : Int) h = jOf (clsOf (n.val : Int) h) := by decide +kernel
theorem of2_form (op : Int) (h : Bool) (h0 : 0 ≤ op) (h1 : op < 256) : of2Val op h = #[.int .i64 (formL op h).n, .bool (decide ((formL op h).a = 1)), .bool (decide ((formL op h).b = 1)), .int .i64 (formL op h).m, .bool (decide ((formL op h).s = 1))] := by
  obtain ⟨n, rfl⟩ := Int.eq_ofNat_of_zero_le h0
  unfold of2Val formL
  rw [show of2J (n : Int) h = jOf (clsOf (n : Int) h) from j_all ⟨n, by omega⟩ h]
  have hc := cls_le (n : Int) h
  generalize clsOf (n : Int) h = c at *
  rcases (show c = 0 ∨ c = 1 ∨ c = 2 ∨ c = 3 ∨ c = 4 ∨ c = 5 ∨ c = 6 ∨ c = 7 ∨ c = 8 ∨ c = 9 by omega) with rfl | rfl | rfl | rfl | rfl | rfl | rfl | rfl | rfl | rfl <;> rfl
end Go.Proofs.YtjkjnomhggmplaaGreat
