/- Package flags: what operations of two numbers make, as the program reckons it. -/
import Derived.Test.YtdbfjgmehmbefaaFlags
namespace Go.Proofs.Ytdbfjgmehmbefaa
open Go.RowKit

def addR (a b : Int) : Int := (a + b) % 4294967296
def addF (a b : Int) : Int := flg (addR a b) (decide (addR a b < a)) (bits .and .u32 (bits .xor .u32 a (addR a b)) (bits .xor .u32 b (addR a b)) / 2147483648 == 1)
def subR (a b : Int) : Int := (a - b) % 4294967296
def subF (a b : Int) : Int := flg (subR a b) (decide (a < b)) (bits .and .u32 (bits .xor .u32 a b) (bits .xor .u32 a (subR a b)) / 2147483648 == 1)
def mulR (a b : Int) : Int := IntKind.u64.wrap (a * b) % 4294967296
def mulF (a b : Int) : Int := flg (mulR a b) (IntKind.u64.wrap (a * b) / 4294967296 != 0) false
def mulhR (a b : Int) : Int := IntKind.u64.wrap (a * b) / 4294967296 % 4294967296
set_option maxHeartbeats 400000 in
theorem fl_Add (a b : Int) (_a0 : 0 ≤ a) (_a1 : a < 4294967296) (_b0 : 0 ≤ b) (_b1 : b < 4294967296) (w : World) :
    Calls Try.prog 103 #[.int .u32 a, .int .u32 b] w fun e w' => e = .returned (.tuple #[.int .u32 (addR a b), .int .u32 (addF a b)]) ∧ Same w w' := by
  go_enter Try.func103, Try.ntmps103
  go_wp2_with fail
  refine (put_2 _ _ _ (by omega) (by omega) _ _ (block_new _ _)).mono ?_
  rintro e w' ⟨rfl, rfl⟩
  go_wp2
  go_ret2
  exact ⟨rfl, (Keeps.refl _ _).alloc _⟩
set_option maxHeartbeats 400000 in
theorem fl_Sub (a b : Int) (_a0 : 0 ≤ a) (_a1 : a < 4294967296) (_b0 : 0 ≤ b) (_b1 : b < 4294967296) (w : World) :
    Calls Try.prog 104 #[.int .u32 a, .int .u32 b] w fun e w' => e = .returned (.tuple #[.int .u32 (subR a b), .int .u32 (subF a b)]) ∧ Same w w' := by
  go_enter Try.func104, Try.ntmps104
  go_wp2_with fail
  refine (put_2 _ _ _ (by omega) (by omega) _ _ (block_new _ _)).mono ?_
  rintro e w' ⟨rfl, rfl⟩
  go_wp2
  go_ret2
  exact ⟨rfl, (Keeps.refl _ _).alloc _⟩
set_option maxHeartbeats 400000 in
theorem fl_And (a b : Int) (_a0 : 0 ≤ a) (_a1 : a < 4294967296) (_b0 : 0 ≤ b) (_b1 : b < 4294967296) (w : World) :
    Calls Try.prog 105 #[.int .u32 a, .int .u32 b] w fun e w' => e = .returned (.tuple #[.int .u32 (bits .and .u32 a b), .int .u32 (zn (bits .and .u32 a b))]) ∧ Same w w' := by
  go_enter Try.func105, Try.ntmps105
  go_wp2_with fail
  refine (put_0 _ (bits_lo_u32 _ _ _) (by have := bits_hi_u32 .and a b; omega) _).mono ?_
  rintro e w' ⟨rfl, rfl⟩
  go_wp2
  go_ret2
  exact ⟨rfl, Keeps.refl _ _⟩
set_option maxHeartbeats 400000 in
theorem fl_Or (a b : Int) (_a0 : 0 ≤ a) (_a1 : a < 4294967296) (_b0 : 0 ≤ b) (_b1 : b < 4294967296) (w : World) :
    Calls Try.prog 109 #[.int .u32 a, .int .u32 b] w fun e w' => e = .returned (.tuple #[.int .u32 (bits .or .u32 a b), .int .u32 (zn (bits .or .u32 a b))]) ∧ Same w w' := by
  go_enter Try.func109, Try.ntmps109
  go_wp2_with fail
  refine (put_0 _ (bits_lo_u32 _ _ _) (by have := bits_hi_u32 .or a b; omega) _).mono ?_
  rintro e w' ⟨rfl, rfl⟩
  go_wp2
  go_ret2
  exact ⟨rfl, Keeps.refl _ _⟩
set_option maxHeartbeats 400000 in
theorem fl_Xor (a b : Int) (_a0 : 0 ≤ a) (_a1 : a < 4294967296) (_b0 : 0 ≤ b) (_b1 : b < 4294967296) (w : World) :
    Calls Try.prog 110 #[.int .u32 a, .int .u32 b] w fun e w' => e = .returned (.tuple #[.int .u32 (bits .xor .u32 a b), .int .u32 (zn (bits .xor .u32 a b))]) ∧ Same w w' := by
  go_enter Try.func110, Try.ntmps110
  go_wp2_with fail
  refine (put_0 _ (bits_lo_u32 _ _ _) (by have := bits_hi_u32 .xor a b; omega) _).mono ?_
  rintro e w' ⟨rfl, rfl⟩
  go_wp2
  go_ret2
  exact ⟨rfl, Keeps.refl _ _⟩
set_option maxHeartbeats 400000 in
theorem fl_Mul (a b : Int) (a0 : 0 ≤ a) (a1 : a < 4294967296) (b0 : 0 ≤ b) (b1 : b < 4294967296) (w : World) :
    Calls Try.prog 113 #[.int .u32 a, .int .u32 b] w fun e w' => e = .returned (.tuple #[.int .u32 (mulR a b), .int .u32 (mulF a b)]) ∧ Same w w' := by
  go_enter Try.func113, Try.ntmps113
  go_wp2_with fail
  refine (put_1 _ _ (by omega) (by omega) _ _ (block_new _ _)).mono ?_
  rintro e w' ⟨rfl, rfl⟩
  go_wp2
  go_ret2
  exact ⟨rfl, (Keeps.refl _ _).alloc _⟩
set_option maxHeartbeats 400000 in
theorem fl_Mulh (a b : Int) (a0 : 0 ≤ a) (a1 : a < 4294967296) (b0 : 0 ≤ b) (b1 : b < 4294967296) (w : World) :
    Calls Try.prog 108 #[.int .u32 a, .int .u32 b] w fun e w' => e = .returned (.tuple #[.int .u32 (mulhR a b), .int .u32 (zn (mulhR a b))]) ∧ Same w w' := by
  go_enter Try.func108, Try.ntmps108
  go_wp2_with fail
  refine (put_0 _ (by omega) (by omega) _).mono ?_
  rintro e w' ⟨rfl, rfl⟩
  go_wp2
  go_ret2
  exact ⟨rfl, Keeps.refl _ _⟩
set_option maxHeartbeats 400000 in
theorem fl_Div_no (a : Int) (w : World) : Calls Try.prog 101 #[.int .u32 a, .int .u32 0] w fun e w' => e = .returned (.tuple #[.int .u32 0, .int .u32 0, .bool false]) ∧ Same w w' := by
  go_enter Try.func101, Try.ntmps101
  go_wp2
  go_ret3
  exact ⟨rfl, Keeps.refl _ _⟩
set_option maxHeartbeats 400000 in
theorem fl_Div (a b : Int) (a0 : 0 ≤ a) (a1 : a < 4294967296) (b0 : 0 < b) (b1 : b < 4294967296) (w : World) :
    Calls Try.prog 101 #[.int .u32 a, .int .u32 b] w fun e w' => e = .returned (.tuple #[.int .u32 (a / b), .int .u32 (zn (a / b)), .bool true]) ∧ Same w w' := by
  have hb : (b == 0) = false := by simp; omega
  have hd0 : 0 ≤ a / b := Int.ediv_nonneg a0 (by omega)
  have hd1 : a / b ≤ a := Int.ediv_le_self _ a0
  have hm0 : 0 ≤ a % b := Int.emod_nonneg _ (by omega)
  have hm1 : a % b < b := Int.emod_lt_of_pos _ b0
  go_enter Try.func101, Try.ntmps101
  go_wp2_with fail
  refine (put_0 _ (by omega) (by omega) _).mono ?_
  rintro e w' ⟨rfl, rfl⟩
  go_wp2
  go_ret3
  exact ⟨rfl, Keeps.refl _ _⟩
set_option maxHeartbeats 400000 in
theorem fl_Rem_no (a : Int) (w : World) : Calls Try.prog 102 #[.int .u32 a, .int .u32 0] w fun e w' => e = .returned (.tuple #[.int .u32 0, .int .u32 0, .bool false]) ∧ Same w w' := by
  go_enter Try.func102, Try.ntmps102
  go_wp2
  go_ret3
  exact ⟨rfl, Keeps.refl _ _⟩
set_option maxHeartbeats 400000 in
theorem fl_Rem (a b : Int) (a0 : 0 ≤ a) (a1 : a < 4294967296) (b0 : 0 < b) (b1 : b < 4294967296) (w : World) :
    Calls Try.prog 102 #[.int .u32 a, .int .u32 b] w fun e w' => e = .returned (.tuple #[.int .u32 (a % b), .int .u32 (zn (a % b)), .bool true]) ∧ Same w w' := by
  have hb : (b == 0) = false := by simp; omega
  have hd0 : 0 ≤ a / b := Int.ediv_nonneg a0 (by omega)
  have hd1 : a / b ≤ a := Int.ediv_le_self _ a0
  have hm0 : 0 ≤ a % b := Int.emod_nonneg _ (by omega)
  have hm1 : a % b < b := Int.emod_lt_of_pos _ b0
  go_enter Try.func102, Try.ntmps102
  go_wp2_with fail
  refine (put_0 _ (by omega) (by omega) _).mono ?_
  rintro e w' ⟨rfl, rfl⟩
  go_wp2
  go_ret3
  exact ⟨rfl, Keeps.refl _ _⟩
end Go.Proofs.Ytdbfjgmehmbefaa
