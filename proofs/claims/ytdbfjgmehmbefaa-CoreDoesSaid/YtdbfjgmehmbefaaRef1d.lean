/- The reference of layer 1: shifts, step by step. -/
import Derived.Test.YtdbfjgmehmbefaaRef1c
import Derived.Test.YtdbfjgmehmbefaaCore4
namespace Go.Proofs.Ytdbfjgmehmbefaa
open Go.RowKit

theorem and_one (x : Int) (h0 : 0 ≤ x) (h1 : x < 4294967296) : bits .and .u32 x 1 = x % 2 := by
  rw [u32_and x 1 h0 h1 (by omega) (by omega)]
  rw [show Int.toNat 1 = 1 from rfl, nat_mask1]; omega
theorem pw_pos (k : Nat) : 0 < pw k := by rw [pw_nat]; have := Nat.one_le_two_pow (n := k); omega
theorem pw_add (j k : Nat) : pw (j + k) = pw j * pw k := by simp [pw, Int.pow_add]
/-! Up. -/
def upS (a : Int) (k : Nat) : Bool := if k = 0 then false else upC a k
theorem upR_pw (a : Int) (k : Nat) : upR a k = a * pw k % 4294967296 := by unfold upR pw; rw [Int.toNat_natCast]
theorem up_step (a : Int) (k : Nat) : upR a ((k + 1 : Nat) : Int) = (upR a k + upR a k) % 4294967296 := by
  rw [upR_pw, upR_pw, pw_succ, ← Int.mul_assoc]
  generalize a * pw k = z
  omega
theorem up_bit (a : Int) (k : Nat) (hk : k < 32) (a0 : 0 ≤ a) (a1 : a < 4294967296) : bitB (upR a k) 31 = upS a (k + 1) := by
  unfold upS upC bitB
  rw [if_neg (by omega), upR_pw]
  have e1 : ((32 : Int) - ((k + 1 : Nat) : Int)).toNat = 31 - k := by omega
  rw [e1]
  have hq := pw_pos (31 - k)
  have hp := pw_pos k
  have hpq : pw k * pw (31 - k) = 2147483648 := by rw [← pw_add, show k + (31 - k) = 31 by omega]; decide
  have e2 : a / 2 ^ (31 - k) = a / pw (31 - k) := rfl
  have d0 : 0 ≤ a / pw (31 - k) := Int.ediv_nonneg a0 (by omega)
  have d1 : a / pw (31 - k) ≤ a := Int.ediv_le_self _ a0
  rw [e2, and_one _ d0 (by omega)]
  have e3 : pw k * a / (pw k * pw (31 - k)) = a / pw (31 - k) := Int.mul_ediv_mul_of_pos _ _ hp
  rw [hpq, Int.mul_comm] at e3
  rw [← e3, show pw 31 = 2147483648 by decide]
  generalize a * pw k = z
  rw [Bool.eq_iff_iff, beq_iff_eq, beq_iff_eq]
  omega
/-! Down. -/
def downS (a : Int) (k : Nat) : Bool := if k = 0 then false else downC a k
theorem downR_pw (a : Int) (k : Nat) : downR a k = a / pw k := by unfold downR pw; rw [Int.toNat_natCast]
theorem down_step (a : Int) (k : Nat) : downR a ((k + 1 : Nat) : Int) = downR a k / 2 := by
  rw [downR_pw, downR_pw, pw_succ, ← Int.ediv_ediv_of_nonneg (Int.le_of_lt (pw_pos k))]
theorem downC_pw (a : Int) (k : Nat) (a0 : 0 ≤ a) (a1 : a < 4294967296) : downS a (k + 1) = (a / pw k % 2 == 1) := by
  unfold downS downC
  rw [if_neg (by omega)]
  have e1 : (((k + 1 : Nat) : Int)).toNat - 1 = k := by omega
  rw [e1]
  have e2 : a / 2 ^ k = a / pw k := rfl
  have d0 : 0 ≤ a / pw k := Int.ediv_nonneg a0 (Int.le_of_lt (pw_pos k))
  have d1 : a / pw k ≤ a := Int.ediv_le_self _ a0
  rw [e2, and_one _ d0 (by omega)]
theorem down_bit (a : Int) (k : Nat) (a0 : 0 ≤ a) (a1 : a < 4294967296) : bitB (downR a k) 0 = downS a (k + 1) := by
  rw [downC_pw a k a0 a1, downR_pw]
  unfold bitB
  rw [show pw 0 = 1 by decide]; simp
/-! Round. -/
def roundS (a : Int) (k : Nat) : Bool := if k = 0 then false else roundC a k
def roundN (a : Int) (k : Nat) : Int := a / pw k + a % pw k * pw (32 - k)
theorem round_eq (a : Int) (k : Nat) (hk : k ≤ 32) (a0 : 0 ≤ a) (a1 : a < 4294967296) : roundR a k = roundN a k := by
  unfold roundR roundN
  have e1 : ((32 : Int) - (k : Int)).toNat = 32 - k := by omega
  rw [e1, Int.toNat_natCast]
  have hq := pw_pos (32 - k)
  have hp := pw_pos k
  have hpq : pw k * pw (32 - k) = 4294967296 := by rw [← pw_add, show k + (32 - k) = 32 by omega]; decide
  show bits .or .u32 (a / pw k) (a * pw (32 - k) % 4294967296) = _
  have e2 : a * pw (32 - k) % 4294967296 = a % pw k * pw (32 - k) := by
    rw [← hpq, Int.mul_comm a, Int.mul_comm (pw k), Int.mul_emod_mul_of_pos _ _ hq, Int.mul_comm]
  have b0 : 0 ≤ a * pw (32 - k) % 4294967296 := Int.emod_nonneg _ (by omega)
  have b1 : a * pw (32 - k) % 4294967296 < 4294967296 := Int.emod_lt_of_pos _ (by omega)
  have d0 : 0 ≤ a / pw k := Int.ediv_nonneg a0 (by omega)
  have d1 : a / pw k ≤ a := Int.ediv_le_self _ a0
  have d2 : a / pw k < pw (32 - k) := by
    rw [Int.ediv_lt_iff_lt_mul hp, Int.mul_comm, hpq]; exact a1
  have hm : (a * pw (32 - k) % 4294967296) % pw (32 - k) = 0 := by rw [e2]; exact Int.mul_emod_left _ _
  rw [u32_or _ _ d0 (by omega) b0 b1]
  obtain ⟨x, hx⟩ := Int.eq_ofNat_of_zero_le b0
  obtain ⟨y, hy⟩ := Int.eq_ofNat_of_zero_le d0
  rw [hx] at hm
  rw [hy] at d2
  rw [← e2, hx, hy, Int.toNat_natCast, Int.toNat_natCast, Nat.or_comm]
  rw [pw_nat] at hm d2
  rw [nat_join (32 - k) x y (by omega) (by omega)]
  omega
theorem round_bd (a : Int) (k : Nat) (hk : k ≤ 32) (a0 : 0 ≤ a) (a1 : a < 4294967296) : 0 ≤ roundN a k ∧ roundN a k < 4294967296 := by
  rw [← round_eq a k hk a0 a1]; exact roundR_bd a k
theorem round_next (a : Int) (k : Nat) (hk : k < 32) (_a0 : 0 ≤ a) : roundN a (k + 1) = roundN a k / 2 + roundN a k % 2 * 2147483648 := by
  unfold roundN
  have hp := pw_pos k
  have e1 : pw (32 - k) = pw (32 - (k + 1)) * 2 := by rw [← pw_succ, show 32 - (k + 1) + 1 = 32 - k by omega]
  have hpq : pw k * pw (32 - (k + 1)) = 2147483648 := by rw [← pw_add, show k + (32 - (k + 1)) = 31 by omega]; decide
  have e2 : a / (pw k * 2) = a / pw k / 2 := (Int.ediv_ediv_of_nonneg (Int.le_of_lt hp)).symm
  have e3 : a % (pw k * 2) = a % pw k + pw k * (a / pw k % 2) := by
    rw [Int.emod_def a (pw k * 2), Int.emod_def a (pw k), Int.emod_def (a / pw k) 2, e2, Int.mul_sub, Int.mul_assoc]
    omega
  rw [e1, pw_succ, e2, e3, Int.add_mul, Int.mul_assoc (pw k), Int.mul_comm (a / pw k % 2), ← Int.mul_assoc (pw k), hpq, ← Int.mul_assoc (a % pw k)]
  generalize a % pw k * pw (32 - (k + 1)) = V
  generalize a / pw k = U
  omega
theorem round_step (a : Int) (k : Nat) (hk : k < 32) (a0 : 0 ≤ a) (a1 : a < 4294967296) : roundR a ((k + 1 : Nat) : Int) = roundR a k / 2 + (if bitB (roundR a k) 0 then 2147483648 else 0) := by
  rw [round_eq a (k + 1) (by omega) a0 a1, round_eq a k (by omega) a0 a1, round_next a k hk a0]
  unfold bitB
  rw [show pw 0 = 1 by decide]
  generalize roundN a k = x
  rcases (show x % 2 = 0 ∨ x % 2 = 1 by omega) with h | h <;> simp [h]
theorem round_bit (a : Int) (k : Nat) (hk : k < 32) (a0 : 0 ≤ a) (a1 : a < 4294967296) : bitB (roundR a k) 0 = roundS a (k + 1) := by
  unfold roundS roundC
  rw [if_neg (by omega), round_eq a (k + 1) (by omega) a0 a1, round_eq a k (by omega) a0 a1, round_next a k hk a0]
  have h := round_bd a k (by omega) a0 a1
  unfold bitB
  rw [show pw 0 = 1 by decide]
  generalize roundN a k = x at *
  rw [Bool.eq_iff_iff, beq_iff_eq, beq_iff_eq]
  omega
/-! Signed. -/
theorem wrap32_sg (a : Int) (a0 : 0 ≤ a) (a1 : a < 4294967296) : wrap32 a = sg a := by
  unfold wrap32 sg
  by_cases h : 2147483648 ≤ a <;> simp [h] <;> omega
theorem sarR_pw (a : Int) (k : Nat) (a0 : 0 ≤ a) (a1 : a < 4294967296) : sarR a k = sg a / pw k % 4294967296 := by
  unfold sarR pw; rw [Int.toNat_natCast, wrap32_sg a a0 a1]
theorem sg_div_bd (a : Int) (k : Nat) (a0 : 0 ≤ a) (a1 : a < 4294967296) : -2147483648 ≤ sg a / pw k ∧ sg a / pw k ≤ 2147483647 := by
  have hb := sg_bd a a0 a1
  have hp := pw_pos k
  constructor
  · rw [Int.le_ediv_iff_mul_le hp]
    have : -2147483648 * pw k ≤ -2147483648 * 1 := Int.mul_le_mul_of_nonpos_left (by omega) (by omega)
    omega
  · have h1 : sg a / pw k ≤ 2147483647 / pw k := Int.ediv_le_ediv hp hb.2
    have h2 : (2147483647 : Int) / pw k ≤ 2147483647 := Int.ediv_le_self _ (by omega)
    omega
theorem sar_step (a : Int) (k : Nat) (a0 : 0 ≤ a) (a1 : a < 4294967296) : sarR a ((k + 1 : Nat) : Int) = sarR a k / 2 + (if bitB (sarR a k) 31 then 2147483648 else 0) := by
  rw [sarR_pw a (k + 1) a0 a1, sarR_pw a k a0 a1, pw_succ, ← Int.ediv_ediv_of_nonneg (Int.le_of_lt (pw_pos k))]
  have hb := sg_div_bd a k a0 a1
  unfold bitB
  rw [show pw 31 = 2147483648 by decide]
  generalize sg a / pw k = y at *
  split
  · rename_i h; rw [beq_iff_eq] at h; omega
  · rename_i h; rw [beq_iff_eq] at h; omega
theorem sar_bit (a : Int) (k : Nat) (hk : k < 32) (a0 : 0 ≤ a) (a1 : a < 4294967296) : bitB (sarR a k) 0 = downS a (k + 1) := by
  rw [downC_pw a k a0 a1, sarR_pw a k a0 a1]
  unfold bitB
  rw [show pw 0 = 1 by decide]
  have hp := pw_pos k
  have hpq : pw k * pw (32 - k) = 4294967296 := by rw [← pw_add, show k + (32 - k) = 32 by omega]; decide
  have hev : pw (32 - k) = pw (31 - k) * 2 := by rw [← pw_succ, show 31 - k + 1 = 32 - k by omega]
  have e : sg a / pw k % 2 = a / pw k % 2 := by
    unfold sg
    split
    · have h1 : a - 4294967296 = a + pw k * (-(pw (32 - k))) := by rw [Int.mul_neg, hpq]; omega
      rw [h1, Int.add_mul_ediv_left _ _ (by omega), hev]
      generalize a / pw k = u
      generalize pw (31 - k) = t
      omega
    · rfl
  rw [Bool.eq_iff_iff, beq_iff_eq, beq_iff_eq]
  omega
end Go.Proofs.Ytdbfjgmehmbefaa
