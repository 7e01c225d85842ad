/- Plain laws on bits of 32-bit numbers. No program is named here. A status with other flags, in plain numbers. No program is named here. -/
import Derived.WalkKit
import Derived.Laws.BitsAllLaws
import Derived.IntWalk
namespace Go.Proofs.YtjkjnomhggmplaaGreat
open Go.RowKit

theorem and_255 (v : Int) (h0 : 0 ≤ v) (h1 : v < 4294967296) : bits .and .u32 v 255 = v % 256 := by
  rw [u32_and v 255 h0 h1 (by omega) (by omega)]
  rw [show Int.toNat 255 = 255 from rfl, nat_mask8]; omega
theorem and_65535 (v : Int) (h0 : 0 ≤ v) (h1 : v < 4294967296) : bits .and .u32 v 65535 = v % 65536 := by
  rw [u32_and v 65535 h0 h1 (by omega) (by omega)]
  rw [show Int.toNat 65535 = 2 ^ 16 - 1 from rfl, Nat.and_two_pow_sub_one_eq_mod]; omega
theorem and_all (v : Int) (h0 : 0 ≤ v) (h1 : v < 4294967296) : bits .and .u32 v 4294967295 = v := by
  rw [u32_and v 4294967295 h0 h1 (by omega) (by omega)]
  rw [show Int.toNat 4294967295 = 2 ^ 32 - 1 from rfl, Nat.and_two_pow_sub_one_eq_mod]; omega
/-- One bit. -/
theorem and_bit (v : Int) (k : Nat) (hk : k < 32) (h0 : 0 ≤ v) (h1 : v < 4294967296) : bits .and .u32 v (2 ^ k) = v / 2 ^ k % 2 * 2 ^ k := by
  have hp : (2 : Int) ^ k < 4294967296 := by
    have : (2 : Nat) ^ k < 2 ^ 32 := Nat.pow_lt_pow_right (by omega) hk
    have h2 : ((2 ^ k : Nat) : Int) = (2 : Int) ^ k := by simp
    rw [← h2]; omega
  have hp0 : (0 : Int) ≤ 2 ^ k := Int.pow_nonneg (by omega)
  rw [u32_and v _ h0 h1 hp0 hp]
  obtain ⟨n, rfl⟩ := Int.eq_ofNat_of_zero_le h0
  have h2 : ((2 : Int) ^ k).toNat = 2 ^ k := by
    have : (2 : Int) ^ k = ((2 ^ k : Nat) : Int) := by simp
    rw [this, Int.toNat_natCast]
  rw [h2, Int.toNat_natCast, nat_bit]
  simp
theorem i8_wrap (v : Int) : IntKind.i8.wrap v = if v % 256 < 128 then v % 256 else v % 256 - 256 := by
  have h : IntKind.i8.wrap v = if 128 ≤ v % 256 then v % 256 - 256 else v % 256 := by simp [IntKind.wrap, IntKind.bits, IntKind.signed]
  rw [h]; split <;> split <;> omega
theorem i16_wrap (v : Int) : IntKind.i16.wrap v = if v % 65536 < 32768 then v % 65536 else v % 65536 - 65536 := by
  have h : IntKind.i16.wrap v = if 32768 ≤ v % 65536 then v % 65536 - 65536 else v % 65536 := by simp [IntKind.wrap, IntKind.bits, IntKind.signed]
  rw [h]; split <;> split <;> omega
end Go.Proofs.YtjkjnomhggmplaaGreat
namespace Go.Proofs.YtjkjnomhggmplaaGreat
open Go.RowKit

theorem nat_240 (x : Nat) (h : x < 4294967296) : x &&& 4294967055 = x - x / 16 % 16 * 16 := by
  have h1 : (x &&& 4294967055) / 2 ^ 8 = x / 2 ^ 8 &&& 4294967055 / 2 ^ 8 := by
    rw [← Nat.shiftRight_eq_div_pow, ← Nat.shiftRight_eq_div_pow, ← Nat.shiftRight_eq_div_pow, Nat.shiftRight_and_distrib]
  have h2 : (x &&& 4294967055) % 2 ^ 8 = x % 2 ^ 8 &&& 4294967055 % 2 ^ 8 := Nat.and_mod_two_pow
  rw [show (4294967055 / 2 ^ 8 : Nat) = 2 ^ 24 - 1 by decide, Nat.and_two_pow_sub_one_eq_mod] at h1
  rw [show (4294967055 % 2 ^ 8 : Nat) = 2 ^ 4 - 1 by decide, Nat.and_two_pow_sub_one_eq_mod] at h2
  omega
theorem nat_224 (x : Nat) : x &&& 224 = x / 32 % 8 * 32 := by
  have h1 : (x &&& 224) / 2 ^ 5 = x / 2 ^ 5 &&& 224 / 2 ^ 5 := by
    rw [← Nat.shiftRight_eq_div_pow, ← Nat.shiftRight_eq_div_pow, ← Nat.shiftRight_eq_div_pow, Nat.shiftRight_and_distrib]
  have h2 : (x &&& 224) % 2 ^ 5 = x % 2 ^ 5 &&& 224 % 2 ^ 5 := Nat.and_mod_two_pow
  rw [show (224 / 2 ^ 5 : Nat) = 2 ^ 3 - 1 by decide, Nat.and_two_pow_sub_one_eq_mod] at h1
  rw [show (224 % 2 ^ 5 : Nat) = 0 by decide, Nat.and_zero] at h2
  omega
theorem andNot_240 (v : Int) (h0 : 0 ≤ v) (h1 : v < 4294967296) : bits .andNot .u32 v 240 = v - v / 16 % 16 * 16 := by
  rw [u32_andNot v 240 h0 h1 (by omega) (by omega)]
  have := nat_240 v.toNat (by omega)
  rw [show (4294967295 - Int.toNat 240 : Nat) = 4294967055 by decide, this]
  omega
theorem and_224 (v : Int) (h0 : 0 ≤ v) (h1 : v < 4294967296) : bits .and .u32 v 224 = v / 32 % 8 * 32 := by
  rw [u32_and v 224 h0 h1 (by omega) (by omega)]
  rw [show Int.toNat 224 = 224 from rfl, nat_224]; omega
theorem and_16 (v : Int) (h0 : 0 ≤ v) (h1 : v < 4294967296) : bits .and .u32 v 16 = v / 16 % 2 * 16 := and_bit v 4 (by omega) h0 h1
theorem and_32 (v : Int) (h0 : 0 ≤ v) (h1 : v < 4294967296) : bits .and .u32 v 32 = v / 32 % 2 * 32 := and_bit v 5 (by omega) h0 h1
theorem and_64 (v : Int) (h0 : 0 ≤ v) (h1 : v < 4294967296) : bits .and .u32 v 64 = v / 64 % 2 * 64 := and_bit v 6 (by omega) h0 h1
theorem and_128 (v : Int) (h0 : 0 ≤ v) (h1 : v < 4294967296) : bits .and .u32 v 128 = v / 128 % 2 * 128 := and_bit v 7 (by omega) h0 h1
/-- Other flags. -/
theorem turn_ps (p f : Int) (h0 : 0 ≤ p) (h1 : p < 4294967296) (f0 : 0 ≤ f) (f1 : f < 256) (f2 : f % 16 = 0) : bits .or .u32 (bits .andNot .u32 p 240) f = p - p / 16 % 16 * 16 + f := by
  rw [andNot_240 p h0 h1, u32_or _ f (by omega) (by omega) f0 (by omega)]
  obtain ⟨x, rfl⟩ := Int.eq_ofNat_of_zero_le h0
  obtain ⟨g, rfl⟩ := Int.eq_ofNat_of_zero_le f0
  have e1 : ((x : Int) - (x : Int) / 16 % 16 * 16).toNat = x / 256 * 256 + x % 16 := by omega
  rw [e1, Int.toNat_natCast]
  have j1 : x / 256 * 256 ||| x % 16 = x / 256 * 256 + x % 16 := nat_join 8 _ _ (by omega) (by omega)
  have j2 : g ||| x % 16 = g + x % 16 := nat_join 4 _ _ (by omega) (by omega)
  have j3 : x / 256 * 256 ||| (g + x % 16) = x / 256 * 256 + (g + x % 16) := nat_join 8 _ _ (by omega) (by omega)
  rw [← j1, Nat.or_assoc, Nat.or_comm (x % 16) g, j2, j3]
  omega
theorem xor_self (a : Int) (h0 : 0 ≤ a) (h1 : a < 4294967296) : bits .xor .u32 a a = 0 := by
  rw [u32_xor a a h0 h1 h0 h1, Nat.xor_self]; rfl
theorem and_zero_l (a : Int) (h0 : 0 ≤ a) (h1 : a < 4294967296) : bits .and .u32 0 a = 0 := by
  rw [u32_and 0 a (by omega) (by omega) h0 h1]; simp
end Go.Proofs.YtjkjnomhggmplaaGreat
