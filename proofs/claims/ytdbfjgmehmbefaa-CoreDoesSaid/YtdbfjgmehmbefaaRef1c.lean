/- The reference of layer 1: powers, bits, and operations bit by bit. -/
import Derived.Test.YtdbfjgmehmbefaaRef1b
import Derived.Test.YtdbfjgmehmbefaaRa
namespace Go.Proofs.Ytdbfjgmehmbefaa
open Go.RowKit

def pw (k : Nat) : Int := 2 ^ k
theorem pw_nat (k : Nat) : pw k = ((2 ^ k : Nat) : Int) := by simp [pw]
theorem pw_succ (k : Nat) : pw (k + 1) = pw k * 2 := by simp [pw, Int.pow_succ]
theorem pw_bd (k : Nat) (h : k ≤ 31) : 1 ≤ pw k ∧ pw k ≤ 2147483648 := by
  rw [pw_nat]
  have h1 : 2 ^ k ≤ 2 ^ 31 := Nat.pow_le_pow_right (by omega) h
  have h2 : 1 ≤ 2 ^ k := Nat.one_le_two_pow
  omega
/-- Bit k of a number. -/
def bitB (a : Int) (k : Nat) : Bool := a / pw k % 2 == 1
theorem bitB_nat (n k : Nat) : bitB (n : Int) k = n.testBit k := by
  unfold bitB
  rw [pw_nat, Nat.testBit_eq_decide_div_mod_eq, Bool.eq_iff_iff, decide_eq_true_eq, beq_iff_eq]
  omega
theorem bit_and (a b : Int) (k : Nat) (a0 : 0 ≤ a) (a1 : a < 4294967296) (b0 : 0 ≤ b) (b1 : b < 4294967296) : bitB (bits .and .u32 a b) k = (bitB a k && bitB b k) := by
  obtain ⟨p, rfl⟩ := Int.eq_ofNat_of_zero_le a0
  obtain ⟨q, rfl⟩ := Int.eq_ofNat_of_zero_le b0
  rw [u32_and _ _ a0 a1 b0 b1, Int.toNat_natCast, Int.toNat_natCast, bitB_nat, bitB_nat, bitB_nat, Nat.testBit_and]
theorem bit_or (a b : Int) (k : Nat) (a0 : 0 ≤ a) (a1 : a < 4294967296) (b0 : 0 ≤ b) (b1 : b < 4294967296) : bitB (bits .or .u32 a b) k = (bitB a k || bitB b k) := by
  obtain ⟨p, rfl⟩ := Int.eq_ofNat_of_zero_le a0
  obtain ⟨q, rfl⟩ := Int.eq_ofNat_of_zero_le b0
  rw [u32_or _ _ a0 a1 b0 b1, Int.toNat_natCast, Int.toNat_natCast, bitB_nat, bitB_nat, bitB_nat, Nat.testBit_or]
theorem bit_xor (a b : Int) (k : Nat) (a0 : 0 ≤ a) (a1 : a < 4294967296) (b0 : 0 ≤ b) (b1 : b < 4294967296) : bitB (bits .xor .u32 a b) k = (bitB a k != bitB b k) := by
  obtain ⟨p, rfl⟩ := Int.eq_ofNat_of_zero_le a0
  obtain ⟨q, rfl⟩ := Int.eq_ofNat_of_zero_le b0
  rw [u32_xor _ _ a0 a1 b0 b1, Int.toNat_natCast, Int.toNat_natCast, bitB_nat, bitB_nat, bitB_nat, Nat.testBit_xor]
/-- The lowest k bits. -/
def lo (x : Int) (k : Nat) : Int := x % pw k
theorem lo_succ (x : Int) (k : Nat) (x0 : 0 ≤ x) : lo x (k + 1) = lo x k + if bitB x k then pw k else 0 := by
  obtain ⟨n, rfl⟩ := Int.eq_ofNat_of_zero_le x0
  unfold lo
  rw [bitB_nat, pw_nat, pw_nat]
  have h := Nat.mod_pow_succ (b := 2) (k := k) (x := n)
  have e1 : ((n : Int) % ((2 ^ (k + 1) : Nat) : Int)) = ((n % 2 ^ (k + 1) : Nat) : Int) := by omega
  have e2 : ((n : Int) % ((2 ^ k : Nat) : Int)) = ((n % 2 ^ k : Nat) : Int) := by omega
  rw [e1, e2, h, Nat.testBit_eq_decide_div_mod_eq]
  rcases Nat.mod_two_eq_zero_or_one (n / 2 ^ k) with hz | hz <;> simp [hz]
theorem lo_bd (x : Int) (k : Nat) (h : k ≤ 32) : 0 ≤ lo x k ∧ lo x k < 4294967296 ∧ (k ≤ 31 → lo x k + pw k < 4294967296) := by
  unfold lo
  have hp : 0 < pw k := by rw [pw_nat]; have := Nat.one_le_two_pow (n := k); omega
  have hq : pw k ≤ 4294967296 := by
    rw [pw_nat]
    have h1 : 2 ^ k ≤ 2 ^ 32 := Nat.pow_le_pow_right (by omega) h
    omega
  have h0 := Int.emod_nonneg x (show pw k ≠ 0 by omega)
  have h1 := Int.emod_lt_of_pos x hp
  refine ⟨h0, by omega, fun hk => ?_⟩
  have := pw_bd k hk
  omega
theorem lo_all (x : Int) (h0 : 0 ≤ x) (h1 : x < 4294967296) : lo x 32 = x := by
  unfold lo
  rw [show pw 32 = 4294967296 by decide]; omega
theorem lo_zero (x : Int) : lo x 0 = 0 := by unfold lo; rw [show pw 0 = 1 by decide]; omega
set_option maxHeartbeats 1000000 in
theorem power_any (n : Nat) (hn : n ≤ 31) (w : World) : Calls Try.prog 115 #[.int .i64 n] w fun e w' => e = .returned (.int .u32 (pw n)) ∧ w' = w := by
  go_enter Try.func115, Try.ntmps115
  go_wp2
  go_loop [3, 4] (fun t3 t4 => ∃ k : Nat, k ≤ n ∧ t4 = .int .i64 k ∧ t3 = .int .u32 (pw k)) (fun _ t4 => n - (intOf t4).toNat)
  case atStart => exact ⟨0, by omega, rfl, rfl⟩
  case round =>
    obtain ⟨k, hk, rfl, rfl⟩ := hrel
    by_cases hlt : k < n
    · have hp := pw_bd k (by omega)
      have hs := pw_succ k
      have hp2 := pw_bd (k + 1) (by omega)
      obtain ⟨p0, p1⟩ := hp
      have p2 : pw k * 2 ≤ 2147483648 := by omega
      have HS := hidE hs
      have h32 : k < 32 := by omega
      clear hs hp2
      go_wp2
      go_round
      case rel => exact ⟨k + 1, by omega, by go_num, by rw [HS.out]⟩
      case measure => simp [intOf]; omega
    · obtain rfl : k = n := by omega
      go_wp2
      go_ret
      exact ⟨rfl, rfl⟩
set_option maxHeartbeats 1000000 in
theorem bit1_any (a : Int) (n : Nat) (hn : n ≤ 31) (a0 : 0 ≤ a) (a1 : a < 4294967296) (w : World) : Calls Try.prog 114 #[.int .u32 a, .int .i64 n] w fun e w' => e = .returned (.bool (bitB a n)) ∧ w' = w := by
  have hp := pw_bd n hn
  obtain ⟨p0, p1⟩ := hp
  have HP := hidE (fun w => power_any n hn w)
  unfold bitB
  have d0 : 0 ≤ a / pw n := Int.ediv_nonneg a0 (by omega)
  have hz : (pw n == 0) = false := by simp; omega
  generalize pw n = p at *
  go_enter Try.func114, Try.ntmps114
  go_wp2_with (go_at_call 115; refine (HP.out _).mono ?_; rintro e w' ⟨rfl, rfl⟩)
  go_ret
  exact ⟨rfl, rfl⟩
set_option maxHeartbeats 4000000 in
set_option maxRecDepth 100000 in
theorem r1_Logic0 (a b : Int) (a0 : 0 ≤ a) (a1 : a < 4294967296) (b0 : 0 ≤ b) (b1 : b < 4294967296) (w : World) :
    Calls Try.prog 81 #[.int .i64 0, .int .u32 a, .int .u32 b] w fun e w' => e = .returned (.tuple #[.int .u32 (bits .and .u32 a b), .int .u32 (zn (bits .and .u32 a b))]) ∧ w' = w := by
  obtain ⟨X, hX⟩ : ∃ X, bits .and .u32 a b = X := ⟨_, rfl⟩
  have x0 : 0 ≤ X := by rw [← hX]; exact bits_lo_u32 _ _ _
  have x1 : X < 4294967296 := by have := bits_hi_u32 .and a b; rw [hX] at this; omega
  have HBX : Hid (∀ k, bitB X k = (bitB a k && bitB b k)) := hidE (fun k => by rw [← hX]; exact bit_and a b k a0 a1 b0 b1)
  rw [hX]
  have HO := hidE (fun w => of1_any X false false x0 x1 w)
  rw [show flg X false false = zn X by simp [flg]] at HO
  have HBA := hidE (fun k hk w => bit1_any a k hk a0 a1 w)
  have HBB := hidE (fun k hk w => bit1_any b k hk b0 b1 w)
  clear hX
  go_enter Try.func81, Try.ntmps81
  go_wp2
  go_loop [8, 9] (fun t8 t9 => ∃ k : Nat, k ≤ 32 ∧ t9 = .int .i64 k ∧ t8 = .int .u32 (lo X k)) (fun _ t9 => 32 - (intOf t9).toNat)
  case atStart => exact ⟨0, by omega, rfl, by rw [lo_zero]⟩
  case round =>
    obtain ⟨k, hk, rfl, rfl⟩ := hrel
    by_cases hlt : k < 32
    · have hs := lo_succ X k x0
      obtain ⟨l0, l1, l2⟩ := lo_bd X k hk
      have l2 := l2 (by omega)
      obtain ⟨p0, p1⟩ := pw_bd k (by omega)
      have HP := hidE (fun w => power_any k (by omega) w)
      have HA := hidE (fun w => HBA.out k (by omega) w)
      have HB := hidE (fun w => HBB.out k (by omega) w)
      rw [HBX.out k] at hs
      cases ha : bitB a k <;> cases hb : bitB b k
      all_goals
        rw [ha] at HA
        rw [hb] at HB
        rw [ha, hb] at hs
        have HS := hidE hs
        clear hs ha hb
        go_wp2_with (first
          | (go_at_call 114; (first | with_reducible refine (HA.out _).mono ?_ | with_reducible refine (HB.out _).mono ?_); rintro e w' ⟨rfl, rfl⟩)
          | (go_at_call 115; refine (HP.out _).mono ?_; rintro e w' ⟨rfl, rfl⟩))
        go_round
        case rel => exact ⟨k + 1, by omega, by go_num, by rw [HS.out]; simp⟩
        case measure => simp [intOf]; omega
    · obtain rfl : k = 32 := by omega
      have hl := lo_all X x0 x1
      go_wp2_with (go_at_call 88; refine (HO.out _).mono ?_; rintro e w' ⟨rfl, rfl⟩)
      go_ret2
      exact ⟨rfl, rfl⟩
set_option maxHeartbeats 4000000 in
set_option maxRecDepth 100000 in
theorem r1_Logic1 (a b : Int) (a0 : 0 ≤ a) (a1 : a < 4294967296) (b0 : 0 ≤ b) (b1 : b < 4294967296) (w : World) :
    Calls Try.prog 81 #[.int .i64 1, .int .u32 a, .int .u32 b] w fun e w' => e = .returned (.tuple #[.int .u32 (bits .or .u32 a b), .int .u32 (zn (bits .or .u32 a b))]) ∧ w' = w := by
  obtain ⟨X, hX⟩ : ∃ X, bits .or .u32 a b = X := ⟨_, rfl⟩
  have x0 : 0 ≤ X := by rw [← hX]; exact bits_lo_u32 _ _ _
  have x1 : X < 4294967296 := by have := bits_hi_u32 .or a b; rw [hX] at this; omega
  have HBX : Hid (∀ k, bitB X k = (bitB a k || bitB b k)) := hidE (fun k => by rw [← hX]; exact bit_or a b k a0 a1 b0 b1)
  rw [hX]
  have HO := hidE (fun w => of1_any X false false x0 x1 w)
  rw [show flg X false false = zn X by simp [flg]] at HO
  have HBA := hidE (fun k hk w => bit1_any a k hk a0 a1 w)
  have HBB := hidE (fun k hk w => bit1_any b k hk b0 b1 w)
  clear hX
  go_enter Try.func81, Try.ntmps81
  go_wp2
  go_loop [8, 9] (fun t8 t9 => ∃ k : Nat, k ≤ 32 ∧ t9 = .int .i64 k ∧ t8 = .int .u32 (lo X k)) (fun _ t9 => 32 - (intOf t9).toNat)
  case atStart => exact ⟨0, by omega, rfl, by rw [lo_zero]⟩
  case round =>
    obtain ⟨k, hk, rfl, rfl⟩ := hrel
    by_cases hlt : k < 32
    · have hs := lo_succ X k x0
      obtain ⟨l0, l1, l2⟩ := lo_bd X k hk
      have l2 := l2 (by omega)
      obtain ⟨p0, p1⟩ := pw_bd k (by omega)
      have HP := hidE (fun w => power_any k (by omega) w)
      have HA := hidE (fun w => HBA.out k (by omega) w)
      have HB := hidE (fun w => HBB.out k (by omega) w)
      rw [HBX.out k] at hs
      cases ha : bitB a k <;> cases hb : bitB b k
      all_goals
        rw [ha] at HA
        rw [hb] at HB
        rw [ha, hb] at hs
        have HS := hidE hs
        clear hs ha hb
        go_wp2_with (first
          | (go_at_call 114; (first | with_reducible refine (HA.out _).mono ?_ | with_reducible refine (HB.out _).mono ?_); rintro e w' ⟨rfl, rfl⟩)
          | (go_at_call 115; refine (HP.out _).mono ?_; rintro e w' ⟨rfl, rfl⟩))
        go_round
        case rel => exact ⟨k + 1, by omega, by go_num, by rw [HS.out]; simp⟩
        case measure => simp [intOf]; omega
    · obtain rfl : k = 32 := by omega
      have hl := lo_all X x0 x1
      go_wp2_with (go_at_call 88; refine (HO.out _).mono ?_; rintro e w' ⟨rfl, rfl⟩)
      go_ret2
      exact ⟨rfl, rfl⟩
set_option maxHeartbeats 4000000 in
set_option maxRecDepth 100000 in
theorem r1_Logic2 (a b : Int) (a0 : 0 ≤ a) (a1 : a < 4294967296) (b0 : 0 ≤ b) (b1 : b < 4294967296) (w : World) :
    Calls Try.prog 81 #[.int .i64 2, .int .u32 a, .int .u32 b] w fun e w' => e = .returned (.tuple #[.int .u32 (bits .xor .u32 a b), .int .u32 (zn (bits .xor .u32 a b))]) ∧ w' = w := by
  obtain ⟨X, hX⟩ : ∃ X, bits .xor .u32 a b = X := ⟨_, rfl⟩
  have x0 : 0 ≤ X := by rw [← hX]; exact bits_lo_u32 _ _ _
  have x1 : X < 4294967296 := by have := bits_hi_u32 .xor a b; rw [hX] at this; omega
  have HBX : Hid (∀ k, bitB X k = (bitB a k != bitB b k)) := hidE (fun k => by rw [← hX]; exact bit_xor a b k a0 a1 b0 b1)
  rw [hX]
  have HO := hidE (fun w => of1_any X false false x0 x1 w)
  rw [show flg X false false = zn X by simp [flg]] at HO
  have HBA := hidE (fun k hk w => bit1_any a k hk a0 a1 w)
  have HBB := hidE (fun k hk w => bit1_any b k hk b0 b1 w)
  clear hX
  go_enter Try.func81, Try.ntmps81
  go_wp2
  go_loop [8, 9] (fun t8 t9 => ∃ k : Nat, k ≤ 32 ∧ t9 = .int .i64 k ∧ t8 = .int .u32 (lo X k)) (fun _ t9 => 32 - (intOf t9).toNat)
  case atStart => exact ⟨0, by omega, rfl, by rw [lo_zero]⟩
  case round =>
    obtain ⟨k, hk, rfl, rfl⟩ := hrel
    by_cases hlt : k < 32
    · have hs := lo_succ X k x0
      obtain ⟨l0, l1, l2⟩ := lo_bd X k hk
      have l2 := l2 (by omega)
      obtain ⟨p0, p1⟩ := pw_bd k (by omega)
      have HP := hidE (fun w => power_any k (by omega) w)
      have HA := hidE (fun w => HBA.out k (by omega) w)
      have HB := hidE (fun w => HBB.out k (by omega) w)
      rw [HBX.out k] at hs
      cases ha : bitB a k <;> cases hb : bitB b k
      all_goals
        rw [ha] at HA
        rw [hb] at HB
        rw [ha, hb] at hs
        have HS := hidE hs
        clear hs ha hb
        go_wp2_with (first
          | (go_at_call 114; (first | with_reducible refine (HA.out _).mono ?_ | with_reducible refine (HB.out _).mono ?_); rintro e w' ⟨rfl, rfl⟩)
          | (go_at_call 115; refine (HP.out _).mono ?_; rintro e w' ⟨rfl, rfl⟩))
        go_round
        case rel => exact ⟨k + 1, by omega, by go_num, by rw [HS.out]; simp⟩
        case measure => simp [intOf]; omega
    · obtain rfl : k = 32 := by omega
      have hl := lo_all X x0 x1
      go_wp2_with (go_at_call 88; refine (HO.out _).mono ?_; rintro e w' ⟨rfl, rfl⟩)
      go_ret2
      exact ⟨rfl, rfl⟩
end Go.Proofs.Ytdbfjgmehmbefaa
