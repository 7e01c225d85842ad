/- Plain laws on bits of 32-bit numbers. No program is named here. -/
import Derived.WalkKit
import Derived.Laws.BitsAllLaws
import Derived.IntWalk
namespace Go.Proofs.Ytdbfjgmehmbefaa
open Go.RowKit

theorem and_255 (v : Int) (h0 : 0 ≤ v) (h1 : v < 4294967296) : bits .and .u32 v 255 = v % 256 := by
  rw [u32_and v 255 h0 h1 (by omega) (by omega)]
  rw [show Int.toNat 255 = 255 from rfl, nat_mask8]; omega
theorem and_65535 (v : Int) (h0 : 0 ≤ v) (h1 : v < 4294967296) : bits .and .u32 v 65535 = v % 65536 := by
  rw [u32_and v 65535 h0 h1 (by omega) (by omega)]
  rw [show Int.toNat 65535 = 2 ^ 16 - 1 from rfl, Nat.and_two_pow_sub_one_eq_mod]; omega
theorem and_all (v : Int) (h0 : 0 ≤ v) (h1 : v < 4294967296) : bits .and .u32 v 4294967295 = v := by
  rw [u32_and v 4294967295 h0 h1 (by omega) (by omega)]
  rw [show Int.toNat 4294967295 = 2 ^ 32 - 1 from rfl, Nat.and_two_pow_sub_one_eq_mod]; omega
/-- One bit. -/
theorem and_bit (v : Int) (k : Nat) (hk : k < 32) (h0 : 0 ≤ v) (h1 : v < 4294967296) : bits .and .u32 v (2 ^ k) = v / 2 ^ k % 2 * 2 ^ k := by
  have hp : (2 : Int) ^ k < 4294967296 := by
    have : (2 : Nat) ^ k < 2 ^ 32 := Nat.pow_lt_pow_right (by omega) hk
    have h2 : ((2 ^ k : Nat) : Int) = (2 : Int) ^ k := by simp
    rw [← h2]; omega
  have hp0 : (0 : Int) ≤ 2 ^ k := Int.pow_nonneg (by omega)
  rw [u32_and v _ h0 h1 hp0 hp]
  obtain ⟨n, rfl⟩ := Int.eq_ofNat_of_zero_le h0
  have h2 : ((2 : Int) ^ k).toNat = 2 ^ k := by
    have : (2 : Int) ^ k = ((2 ^ k : Nat) : Int) := by simp
    rw [this, Int.toNat_natCast]
  rw [h2, Int.toNat_natCast, nat_bit]
  simp
theorem i8_wrap (v : Int) : IntKind.i8.wrap v = if v % 256 < 128 then v % 256 else v % 256 - 256 := by
  have h : IntKind.i8.wrap v = if 128 ≤ v % 256 then v % 256 - 256 else v % 256 := by simp [IntKind.wrap, IntKind.bits, IntKind.signed]
  rw [h]; split <;> split <;> omega
theorem i16_wrap (v : Int) : IntKind.i16.wrap v = if v % 65536 < 32768 then v % 65536 else v % 65536 - 65536 := by
  have h : IntKind.i16.wrap v = if 32768 ≤ v % 65536 then v % 65536 - 65536 else v % 65536 := by simp [IntKind.wrap, IntKind.bits, IntKind.signed]
  rw [h]; split <;> split <;> omega
end Go.Proofs.Ytdbfjgmehmbefaa
