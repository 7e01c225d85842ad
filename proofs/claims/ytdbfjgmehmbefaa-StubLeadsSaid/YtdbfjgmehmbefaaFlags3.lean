/- Package flags: shifts. -/
import Derived.Test.YtdbfjgmehmbefaaFlags2
namespace Go.Proofs.Ytdbfjgmehmbefaa
open Go.RowKit

def upR (a n : Int) : Int := a * 2 ^ n.toNat % 4294967296
def upC (a n : Int) : Bool := bits .and .u32 (a / 2 ^ (32 - n).toNat) 1 == 1
def downR (a n : Int) : Int := a / 2 ^ n.toNat
def downC (a n : Int) : Bool := bits .and .u32 (a / 2 ^ (n.toNat - 1)) 1 == 1
def roundR (a n : Int) : Int := bits .or .u32 (a / 2 ^ n.toNat) (a * 2 ^ (32 - n).toNat % 4294967296)
def roundC (a n : Int) : Bool := roundR a n / 2147483648 == 1
def sarR (a n : Int) : Int := wrap32 a / 2 ^ n.toNat % 4294967296
theorem upR_bd (a n : Int) : 0 ≤ upR a n ∧ upR a n < 4294967296 := ⟨Int.emod_nonneg _ (by omega), Int.emod_lt_of_pos _ (by omega)⟩
theorem sarR_bd (a n : Int) : 0 ≤ sarR a n ∧ sarR a n < 4294967296 := ⟨Int.emod_nonneg _ (by omega), Int.emod_lt_of_pos _ (by omega)⟩
theorem roundR_bd (a n : Int) : 0 ≤ roundR a n ∧ roundR a n < 4294967296 := ⟨bits_lo_u32 _ _ _, by unfold roundR; have := bits_hi_u32 .or (a / 2 ^ n.toNat) (a * 2 ^ (32 - n).toNat % 4294967296); omega⟩
theorem downR_bd (a n : Int) (a0 : 0 ≤ a) (a1 : a < 4294967296) : 0 ≤ downR a n ∧ downR a n < 4294967296 := by
  have h1 : 0 ≤ a / 2 ^ n.toNat := Int.ediv_nonneg a0 (Int.le_of_lt (Int.pow_pos (by omega)))
  have h2 : a / 2 ^ n.toNat ≤ a := Int.ediv_le_self _ a0
  unfold downR
  omega
set_option maxHeartbeats 400000 in
theorem row_up (a n : Int) (_a0 : 0 ≤ a) (_a1 : a < 4294967296) (n0 : 0 < n) (n1 : n < 32) (w : World) :
    Calls Try.prog 132 #[.int .u32 a, .int .u32 n] w fun e w' => e = .returned (.tuple #[.int .u32 (upR a n), .bool (upC a n)]) ∧ w' = w := by
  go_enter Try.func132, Try.ntmps132
  go_wp2
  go_ret2
  refine ⟨?_, rfl⟩
  simp [upR, upC]
set_option maxHeartbeats 400000 in
theorem row_down (a n : Int) (_a0 : 0 ≤ a) (_a1 : a < 4294967296) (n0 : 0 < n) (n1 : n < 32) (w : World) :
    Calls Try.prog 133 #[.int .u32 a, .int .u32 n] w fun e w' => e = .returned (.tuple #[.int .u32 (downR a n), .bool (downC a n)]) ∧ w' = w := by
  go_enter Try.func133, Try.ntmps133
  go_wp2
  go_ret2
  refine ⟨?_, rfl⟩
  simp [downR, downC]
set_option maxHeartbeats 400000 in
theorem row_round (a n : Int) (_a0 : 0 ≤ a) (_a1 : a < 4294967296) (n0 : 0 < n) (n1 : n < 32) (w : World) :
    Calls Try.prog 130 #[.int .u32 a, .int .u32 n] w fun e w' => e = .returned (.tuple #[.int .u32 (roundR a n), .bool (roundC a n)]) ∧ w' = w := by
  go_enter Try.func130, Try.ntmps130
  go_wp2
  go_ret2
  refine ⟨?_, rfl⟩
  simp [roundR, roundC]
set_option maxHeartbeats 400000 in
theorem row_signed (a n : Int) (_a0 : 0 ≤ a) (_a1 : a < 4294967296) (n0 : 0 < n) (n1 : n < 32) (w : World) :
    Calls Try.prog 131 #[.int .u32 a, .int .u32 n] w fun e w' => e = .returned (.tuple #[.int .u32 (sarR a n), .bool (downC a n)]) ∧ w' = w := by
  go_enter Try.func131, Try.ntmps131
  go_wp2
  go_ret2
  refine ⟨?_, rfl⟩
  simp [sarR, downC]
set_option maxHeartbeats 400000 in
theorem fl_Shl_0 (a n : Int) (a0 : 0 ≤ a) (a1 : a < 4294967296) (n0 : 0 ≤ n) (n1 : n < 4294967296) (hn : n % 32 = 0) (w : World) :
    Calls Try.prog 111 #[.int .u32 a, .int .u32 n] w fun e w' => e = .returned (.tuple #[.int .u32 a, .int .u32 (zn a)]) ∧ Same w w' := by
  have h1 : (n % 32 == 0) = true := by simp [hn]
  clear hn
  go_enter Try.func111, Try.ntmps111
  go_wp2_with (first | (go_at_call 129; go_in) | (go_at_call 128; refine (put_0 _ a0 a1 _).mono ?_; rintro e w' ⟨rfl, rfl⟩))
  go_ret2
  exact ⟨rfl, Keeps.refl _ _⟩
set_option maxHeartbeats 400000 in
theorem fl_Shl_1 (a n : Int) (a0 : 0 ≤ a) (a1 : a < 4294967296) (n0 : 0 ≤ n) (n1 : n < 4294967296) (hn : n % 32 ≠ 0) (w : World) :
    Calls Try.prog 111 #[.int .u32 a, .int .u32 n] w fun e w' => e = .returned (.tuple #[.int .u32 (upR a (n % 32)), .int .u32 (flg (upR a (n % 32)) (upC a (n % 32)) false)]) ∧ Same w w' := by
  have h1 : (n % 32 == 0) = false := by simp [hn]
  have m0 : 0 < n % 32 := by omega
  have m1 : n % 32 < 32 := by omega
  have hbd := (upR_bd a (n % 32))
  clear hn
  go_enter Try.func111, Try.ntmps111
  go_wp2_with (first | (go_at_call 129; go_in) | (go_at_call 132; refine (row_up a (n % 32) a0 a1 m0 m1 _).mono ?_; rintro e w' ⟨rfl, rfl⟩) | (go_at_call 128; refine (put_1 _ _ hbd.1 hbd.2 _ _ (block_new _ _)).mono ?_; rintro e w' ⟨rfl, rfl⟩))
  go_ret2
  exact ⟨rfl, (Keeps.refl _ _).alloc _⟩
set_option maxHeartbeats 400000 in
theorem fl_Shr_0 (a n : Int) (a0 : 0 ≤ a) (a1 : a < 4294967296) (n0 : 0 ≤ n) (n1 : n < 4294967296) (hn : n % 32 = 0) (w : World) :
    Calls Try.prog 112 #[.int .u32 a, .int .u32 n] w fun e w' => e = .returned (.tuple #[.int .u32 a, .int .u32 (zn a)]) ∧ Same w w' := by
  have h1 : (n % 32 == 0) = true := by simp [hn]
  clear hn
  go_enter Try.func112, Try.ntmps112
  go_wp2_with (first | (go_at_call 129; go_in) | (go_at_call 128; refine (put_0 _ a0 a1 _).mono ?_; rintro e w' ⟨rfl, rfl⟩))
  go_ret2
  exact ⟨rfl, Keeps.refl _ _⟩
set_option maxHeartbeats 400000 in
theorem fl_Shr_1 (a n : Int) (a0 : 0 ≤ a) (a1 : a < 4294967296) (n0 : 0 ≤ n) (n1 : n < 4294967296) (hn : n % 32 ≠ 0) (w : World) :
    Calls Try.prog 112 #[.int .u32 a, .int .u32 n] w fun e w' => e = .returned (.tuple #[.int .u32 (downR a (n % 32)), .int .u32 (flg (downR a (n % 32)) (downC a (n % 32)) false)]) ∧ Same w w' := by
  have h1 : (n % 32 == 0) = false := by simp [hn]
  have m0 : 0 < n % 32 := by omega
  have m1 : n % 32 < 32 := by omega
  have hbd := (downR_bd a (n % 32) a0 a1)
  clear hn
  go_enter Try.func112, Try.ntmps112
  go_wp2_with (first | (go_at_call 129; go_in) | (go_at_call 133; refine (row_down a (n % 32) a0 a1 m0 m1 _).mono ?_; rintro e w' ⟨rfl, rfl⟩) | (go_at_call 128; refine (put_1 _ _ hbd.1 hbd.2 _ _ (block_new _ _)).mono ?_; rintro e w' ⟨rfl, rfl⟩))
  go_ret2
  exact ⟨rfl, (Keeps.refl _ _).alloc _⟩
set_option maxHeartbeats 400000 in
theorem fl_Ror_0 (a n : Int) (a0 : 0 ≤ a) (a1 : a < 4294967296) (n0 : 0 ≤ n) (n1 : n < 4294967296) (hn : n % 32 = 0) (w : World) :
    Calls Try.prog 106 #[.int .u32 a, .int .u32 n] w fun e w' => e = .returned (.tuple #[.int .u32 a, .int .u32 (zn a)]) ∧ Same w w' := by
  have h1 : (n % 32 == 0) = true := by simp [hn]
  clear hn
  go_enter Try.func106, Try.ntmps106
  go_wp2_with (first | (go_at_call 129; go_in) | (go_at_call 128; refine (put_0 _ a0 a1 _).mono ?_; rintro e w' ⟨rfl, rfl⟩))
  go_ret2
  exact ⟨rfl, Keeps.refl _ _⟩
set_option maxHeartbeats 400000 in
theorem fl_Ror_1 (a n : Int) (a0 : 0 ≤ a) (a1 : a < 4294967296) (n0 : 0 ≤ n) (n1 : n < 4294967296) (hn : n % 32 ≠ 0) (w : World) :
    Calls Try.prog 106 #[.int .u32 a, .int .u32 n] w fun e w' => e = .returned (.tuple #[.int .u32 (roundR a (n % 32)), .int .u32 (flg (roundR a (n % 32)) (roundC a (n % 32)) false)]) ∧ Same w w' := by
  have h1 : (n % 32 == 0) = false := by simp [hn]
  have m0 : 0 < n % 32 := by omega
  have m1 : n % 32 < 32 := by omega
  have hbd := (roundR_bd a (n % 32))
  clear hn
  go_enter Try.func106, Try.ntmps106
  go_wp2_with (first | (go_at_call 129; go_in) | (go_at_call 130; refine (row_round a (n % 32) a0 a1 m0 m1 _).mono ?_; rintro e w' ⟨rfl, rfl⟩) | (go_at_call 128; refine (put_1 _ _ hbd.1 hbd.2 _ _ (block_new _ _)).mono ?_; rintro e w' ⟨rfl, rfl⟩))
  go_ret2
  exact ⟨rfl, (Keeps.refl _ _).alloc _⟩
set_option maxHeartbeats 400000 in
theorem fl_Sar_0 (a n : Int) (a0 : 0 ≤ a) (a1 : a < 4294967296) (n0 : 0 ≤ n) (n1 : n < 4294967296) (hn : n % 32 = 0) (w : World) :
    Calls Try.prog 107 #[.int .u32 a, .int .u32 n] w fun e w' => e = .returned (.tuple #[.int .u32 a, .int .u32 (zn a)]) ∧ Same w w' := by
  have h1 : (n % 32 == 0) = true := by simp [hn]
  clear hn
  go_enter Try.func107, Try.ntmps107
  go_wp2_with (first | (go_at_call 129; go_in) | (go_at_call 128; refine (put_0 _ a0 a1 _).mono ?_; rintro e w' ⟨rfl, rfl⟩))
  go_ret2
  exact ⟨rfl, Keeps.refl _ _⟩
set_option maxHeartbeats 400000 in
theorem fl_Sar_1 (a n : Int) (a0 : 0 ≤ a) (a1 : a < 4294967296) (n0 : 0 ≤ n) (n1 : n < 4294967296) (hn : n % 32 ≠ 0) (w : World) :
    Calls Try.prog 107 #[.int .u32 a, .int .u32 n] w fun e w' => e = .returned (.tuple #[.int .u32 (sarR a (n % 32)), .int .u32 (flg (sarR a (n % 32)) (downC a (n % 32)) false)]) ∧ Same w w' := by
  have h1 : (n % 32 == 0) = false := by simp [hn]
  have m0 : 0 < n % 32 := by omega
  have m1 : n % 32 < 32 := by omega
  have hbd := (sarR_bd a (n % 32))
  clear hn
  go_enter Try.func107, Try.ntmps107
  go_wp2_with (first | (go_at_call 129; go_in) | (go_at_call 131; refine (row_signed a (n % 32) a0 a1 m0 m1 _).mono ?_; rintro e w' ⟨rfl, rfl⟩) | (go_at_call 128; refine (put_1 _ _ hbd.1 hbd.2 _ _ (block_new _ _)).mono ?_; rintro e w' ⟨rfl, rfl⟩))
  go_ret2
  exact ⟨rfl, (Keeps.refl _ _).alloc _⟩
end Go.Proofs.Ytdbfjgmehmbefaa
