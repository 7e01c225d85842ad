/- The reference's kinds. -/
import Derived.Test.YtdchhkdgcjnhpaaRow3
namespace Go.Proofs.Ytdchhkdgcjnhpaa
open Go.RowKit

theorem rowShape (op : Int) : ∃ n0 b1 b2 b3 b4 b5 b6 b7 b8 b9 b10, rowVal op = #[.int .i64 n0, .bool b1, .bool b2, .bool b3, .bool b4, .bool b5, .bool b6, .bool b7, .bool b8, .bool b9, .bool b10] := by
  unfold rowVal
  split
  · unfold senseArr; split <;> exact ⟨_, _, _, _, _, _, _, _, _, _, _, rfl⟩
  · unfold rowArr; split <;> exact ⟨_, _, _, _, _, _, _, _, _, _, _, rfl⟩
/-- The class of an operation. -/
def cls3 (op : Int) : Int := match (rowVal op)[0]? with | some (Value.int _ n) => n | _ => 0
def ending3 (op : Int) : Bool := cls3 op == 3 || cls3 op == 4 || cls3 op == 5
def of3Val (op : Int) : Array Value := (rowVal op).setIfInBounds 10 (.bool (ending3 op))
set_option maxHeartbeats 4000000 in
set_option maxRecDepth 100000 in
theorem of3_any (op : Int) (o0 : 0 ≤ op) (o1 : op < 256) (w : World) : Calls Try.prog 51 #[.int .u8 op] w fun e w' => e = .returned (.agg (of3Val op)) ∧ Same w w' := by
  have HS := hidE  (row_any op o0 o1)
  obtain ⟨n0, b1, b2, b3, b4, b5, b6, b7, b8, b9, b10, hsh⟩ := rowShape op
  rw [show of3Val op = #[.int .i64 n0, .bool b1, .bool b2, .bool b3, .bool b4, .bool b5, .bool b6, .bool b7, .bool b8, .bool b9, .bool (n0 == 3 || n0 == 4 || n0 == 5)] from by simp [of3Val, ending3, cls3, hsh]]
  rw [hsh] at HS
  clear hsh
  by_cases d3 : n0 = 3
  · subst d3
    go_enter Try.func51, Try.ntmps51
    go_wp2_with fail
    refine (HS.out _).mono ?_
    rintro e w1 ⟨rfl, hk⟩
    have A1 := hk.get (block_new w _) id
    have hlt := lt_of_block A1
    have c1 := cell_of A1
    have f1 := frozen_of A1
    have HK := hidE  hk
    go_wp2
    exact bodyPost_ret (results_c rfl rfl (by first | exact block_old _ (block_set_all _ _ _ _ _ _ _ _ _ _ _ A1) | exact block_set_all _ _ _ _ _ _ _ _ _ _ _ (block_old _ A1)) Try.underlying91 rfl (by kernel_rfl)) rfl ⟨rfl, by
      first
      | exact (keeps_set_all _ _ _ _ _ _ _ _ _ _ _ (((Keeps.refl _ _).alloc _).trans HK.out) (Nat.le_refl _)).alloc _
      | exact keeps_set_all _ _ _ _ _ _ _ _ _ _ _ ((((Keeps.refl _ _).alloc _).trans HK.out).alloc _) (Nat.le_refl _)⟩
  by_cases d4 : n0 = 4
  · subst d4
    go_enter Try.func51, Try.ntmps51
    go_wp2_with fail
    refine (HS.out _).mono ?_
    rintro e w1 ⟨rfl, hk⟩
    have A1 := hk.get (block_new w _) id
    have hlt := lt_of_block A1
    have c1 := cell_of A1
    have f1 := frozen_of A1
    have HK := hidE  hk
    go_wp2
    exact bodyPost_ret (results_c rfl rfl (by first | exact block_old _ (block_set_all _ _ _ _ _ _ _ _ _ _ _ A1) | exact block_set_all _ _ _ _ _ _ _ _ _ _ _ (block_old _ A1)) Try.underlying91 rfl (by kernel_rfl)) rfl ⟨rfl, by
      first
      | exact (keeps_set_all _ _ _ _ _ _ _ _ _ _ _ (((Keeps.refl _ _).alloc _).trans HK.out) (Nat.le_refl _)).alloc _
      | exact keeps_set_all _ _ _ _ _ _ _ _ _ _ _ ((((Keeps.refl _ _).alloc _).trans HK.out).alloc _) (Nat.le_refl _)⟩
  by_cases d5 : n0 = 5
  · subst d5
    go_enter Try.func51, Try.ntmps51
    go_wp2_with fail
    refine (HS.out _).mono ?_
    rintro e w1 ⟨rfl, hk⟩
    have A1 := hk.get (block_new w _) id
    have hlt := lt_of_block A1
    have c1 := cell_of A1
    have f1 := frozen_of A1
    have HK := hidE  hk
    go_wp2
    exact bodyPost_ret (results_c rfl rfl (by first | exact block_old _ (block_set_all _ _ _ _ _ _ _ _ _ _ _ A1) | exact block_set_all _ _ _ _ _ _ _ _ _ _ _ (block_old _ A1)) Try.underlying91 rfl (by kernel_rfl)) rfl ⟨rfl, by
      first
      | exact (keeps_set_all _ _ _ _ _ _ _ _ _ _ _ (((Keeps.refl _ _).alloc _).trans HK.out) (Nat.le_refl _)).alloc _
      | exact keeps_set_all _ _ _ _ _ _ _ _ _ _ _ ((((Keeps.refl _ _).alloc _).trans HK.out).alloc _) (Nat.le_refl _)⟩
  · rw [show (n0 == 3 || n0 == 4 || n0 == 5) = false from by simp [d3, d4, d5]]
    have q3 : (n0 == 3) = false := by simp [d3]
    have q4 : (n0 == 4) = false := by simp [d4]
    have q5 : (n0 == 5) = false := by simp [d5]
    go_enter Try.func51, Try.ntmps51
    go_wp2_with fail
    refine (HS.out _).mono ?_
    rintro e w1 ⟨rfl, hk⟩
    have A1 := hk.get (block_new w _) id
    have hlt := lt_of_block A1
    have c1 := cell_of A1
    have f1 := frozen_of A1
    have HK := hidE  hk
    go_wp2
    exact bodyPost_ret (results_c rfl rfl (by first | exact block_old _ (block_set_all _ _ _ _ _ _ _ _ _ _ _ A1) | exact block_set_all _ _ _ _ _ _ _ _ _ _ _ (block_old _ A1)) Try.underlying91 rfl (by kernel_rfl)) rfl ⟨rfl, by
      first
      | exact (keeps_set_all _ _ _ _ _ _ _ _ _ _ _ (((Keeps.refl _ _).alloc _).trans HK.out) (Nat.le_refl _)).alloc _
      | exact keeps_set_all _ _ _ _ _ _ _ _ _ _ _ ((((Keeps.refl _ _).alloc _).trans HK.out).alloc _) (Nat.le_refl _)⟩
end Go.Proofs.Ytdchhkdgcjnhpaa
