/- The reference of layer 1: sums, products, quotients, conditions. -/
import Derived.Test.YtdbfjgmehmbefaaRef1
namespace Go.Proofs.Ytdbfjgmehmbefaa
open Go.RowKit

theorem sg_bd (a : Int) (a0 : 0 ≤ a) (a1 : a < 4294967296) : -2147483648 ≤ sg a ∧ sg a ≤ 2147483647 := by unfold sg; split <;> omega
set_option maxHeartbeats 1000000 in
theorem r1_Add (a b : Int) (a0 : 0 ≤ a) (a1 : a < 4294967296) (b0 : 0 ≤ b) (b1 : b < 4294967296) (w : World) :
    Calls Try.prog 46 #[.int .u32 a, .int .u32 b] w fun e w' => e = .returned (.tuple #[.int .u32 (addR a b), .int .u32 (addF a b)]) ∧ w' = w := by
  have r0 : 0 ≤ (a + b) % 4294967296 := by omega
  have r1 : (a + b) % 4294967296 < 4294967296 := by omega
  have HA := hidE (fun w => sg_any a a0 a1 w)
  have HB := hidE (fun w => sg_any b b0 b1 w)
  have HR := hidE (fun w => sg_any ((a + b) % 4294967296) r0 r1 w)
  have HO := hidE (fun c v w => of1_any ((a + b) % 4294967296) c v r0 r1 w)
  have hf := addF_ref a b a0 a1 b0 b1
  have ba := sg_bd a a0 a1
  have bb := sg_bd b b0 b1
  have br := sg_bd _ r0 r1
  unfold addR at hf
  have HF := hidE hf
  clear hf
  generalize sg a = A at *
  generalize sg b = B at *
  generalize sg ((a + b) % 4294967296) = R at *
  obtain ⟨ba0, ba1⟩ := ba
  obtain ⟨bb0, bb1⟩ := bb
  obtain ⟨br0, br1⟩ := br
  go_enter Try.func46, Try.ntmps46
  go_wp2_with (first
    | (go_at_call 89; with_reducible (first | refine (HA.out _).mono ?_ | refine (HB.out _).mono ?_ | refine (HR.out _).mono ?_); rintro e w' ⟨rfl, rfl⟩)
    | (go_at_call 88; refine (HO.out _ _ _).mono ?_; rintro e w' ⟨rfl, rfl⟩))
  go_ret2
  exact ⟨by rw [← HF.out]; rfl, rfl⟩
set_option maxHeartbeats 1000000 in
theorem r1_Sub (a b : Int) (a0 : 0 ≤ a) (a1 : a < 4294967296) (b0 : 0 ≤ b) (b1 : b < 4294967296) (w : World) :
    Calls Try.prog 80 #[.int .u32 a, .int .u32 b] w fun e w' => e = .returned (.tuple #[.int .u32 (subR a b), .int .u32 (subF a b)]) ∧ w' = w := by
  have e0 : subR a b = (a - b) % 4294967296 := rfl
  have r0 : 0 ≤ subR a b := by omega
  have r1 : subR a b < 4294967296 := by omega
  have HA := hidE (fun w => sg_any a a0 a1 w)
  have HB := hidE (fun w => sg_any b b0 b1 w)
  have HR := hidE (fun w => sg_any (subR a b) r0 r1 w)
  have HO := hidE (fun c v w => of1_any (subR a b) c v r0 r1 w)
  have hf := subF_ref a b a0 a1 b0 b1
  have ba := sg_bd a a0 a1
  have bb := sg_bd b b0 b1
  have br := sg_bd _ r0 r1
  have HF := hidE hf
  clear hf
  obtain ⟨ba0, ba1⟩ := ba
  obtain ⟨bb0, bb1⟩ := bb
  obtain ⟨br0, br1⟩ := br
  by_cases h : a < b
  · have e1 : a - b + 4294967296 = subR a b := by omega
    have h2 : a - b < 0 := by omega
    have HD : Hid (decide (a < b) = true) := hidE (by simp [h])
    clear e0
    generalize subR a b = X at *
    go_enter Try.func80, Try.ntmps80
    go_wp2_with (first
      | (go_at_call 89; (first | with_reducible refine (HA.out _).mono ?_ | with_reducible refine (HB.out _).mono ?_ | with_reducible refine (HR.out _).mono ?_); rintro e w' ⟨rfl, rfl⟩)
      | (go_at_call 88; refine (HO.out _ _ _).mono ?_; rintro e w' ⟨rfl, rfl⟩))
    go_ret2
    exact ⟨by rw [← HF.out, HD.out]; rfl, rfl⟩
  · have e1 : a - b = subR a b := by omega
    have h2 : 0 ≤ subR a b := by omega
    have h3 : b ≤ a := by omega
    have HD : Hid (decide (a < b) = false) := hidE (by simp [h])
    clear e0
    generalize subR a b = X at *
    go_enter Try.func80, Try.ntmps80
    go_wp2_with (first
      | (go_at_call 89; (first | with_reducible refine (HA.out _).mono ?_ | with_reducible refine (HB.out _).mono ?_ | with_reducible refine (HR.out _).mono ?_); rintro e w' ⟨rfl, rfl⟩)
      | (go_at_call 88; refine (HO.out _ _ _).mono ?_; rintro e w' ⟨rfl, rfl⟩))
    go_ret2
    exact ⟨by rw [← HF.out, HD.out]; rfl, rfl⟩
theorem wrap64_bd (x : Int) : 0 ≤ IntKind.u64.wrap x ∧ IntKind.u64.wrap x < 18446744073709551616 := by
  have h : IntKind.u64.wrap x = x % 18446744073709551616 := by simp [IntKind.wrap, IntKind.bits, IntKind.signed]
  rw [h]; omega
set_option maxHeartbeats 1000000 in
theorem r1_Mul (a b : Int) (a0 : 0 ≤ a) (a1 : a < 4294967296) (b0 : 0 ≤ b) (b1 : b < 4294967296) (w : World) :
    Calls Try.prog 86 #[.int .u32 a, .int .u32 b] w fun e w' => e = .returned (.tuple #[.int .u32 (mulR a b), .int .u32 (mulF a b)]) ∧ w' = w := by
  unfold mulF mulR
  obtain ⟨p0, p1⟩ := wrap64_bd (a * b)
  obtain ⟨X, hX⟩ : ∃ X, IntKind.u64.wrap (a * b) = X := ⟨_, rfl⟩
  rw [hX] at p0 p1 ⊢
  have r0 : 0 ≤ X % 4294967296 := by omega
  have r1 : X % 4294967296 < 4294967296 := by omega
  have HO := hidE (fun c v w => of1_any (X % 4294967296) c v r0 r1 w)
  have HD : Hid (decide (4294967296 ≤ X) = (X / 4294967296 != 0)) := hidE (by
    rw [Bool.eq_iff_iff]; simp; omega)
  go_enter Try.func86, Try.ntmps86
  go_wp2_with (go_at_call 88; refine (HO.out _ _ _).mono ?_; rintro e w' ⟨rfl, rfl⟩)
  go_ret2
  exact ⟨by rw [← HD.out]; rfl, rfl⟩
set_option maxHeartbeats 1000000 in
theorem r1_Mulh (a b : Int) (a0 : 0 ≤ a) (a1 : a < 4294967296) (b0 : 0 ≤ b) (b1 : b < 4294967296) (w : World) :
    Calls Try.prog 83 #[.int .u32 a, .int .u32 b] w fun e w' => e = .returned (.tuple #[.int .u32 (mulhR a b), .int .u32 (zn (mulhR a b))]) ∧ w' = w := by
  unfold mulhR
  obtain ⟨p0, p1⟩ := wrap64_bd (a * b)
  obtain ⟨X, hX⟩ : ∃ X, IntKind.u64.wrap (a * b) = X := ⟨_, rfl⟩
  rw [hX] at p0 p1 ⊢
  have e0 : X / 4294967296 % 4294967296 = X / 4294967296 := by omega
  rw [e0]
  have r0 : 0 ≤ X / 4294967296 := by omega
  have r1 : X / 4294967296 < 4294967296 := by omega
  have HO := hidE (fun w => of1_any (X / 4294967296) false false r0 r1 w)
  have HZ : Hid (flg (X / 4294967296) false false = zn (X / 4294967296)) := hidE (by simp [flg])
  rw [HZ.out] at HO
  clear e0
  go_enter Try.func83, Try.ntmps83
  go_wp2_with (go_at_call 88; refine (HO.out _).mono ?_; rintro e w' ⟨rfl, rfl⟩)
  go_ret2
  exact ⟨rfl, rfl⟩
set_option maxHeartbeats 1000000 in
theorem r1_Rem0 (a : Int) (w : World) : Calls Try.prog 84 #[.int .u32 a, .int .u32 0] w fun e w' => e = .returned (.tuple #[.int .u32 0, .int .u32 0, .bool false]) ∧ w' = w := by
  go_enter Try.func84, Try.ntmps84
  go_wp2
  go_ret3
  exact ⟨rfl, rfl⟩
set_option maxHeartbeats 1000000 in
theorem r1_Div0 (a : Int) (w : World) : Calls Try.prog 87 #[.int .u32 a, .int .u32 0] w fun e w' => e = .returned (.tuple #[.int .u32 0, .int .u32 0, .bool false]) ∧ w' = w := by
  go_enter Try.func87, Try.ntmps87
  go_wp2
  go_ret3
  exact ⟨rfl, rfl⟩
set_option maxHeartbeats 1000000 in
theorem r1_Rem (a b : Int) (a0 : 0 ≤ a) (a1 : a < 4294967296) (b0 : 0 < b) (b1 : b < 4294967296) (w : World) :
    Calls Try.prog 84 #[.int .u32 a, .int .u32 b] w fun e w' => e = .returned (.tuple #[.int .u32 (a % b), .int .u32 (zn (a % b)), .bool true]) ∧ w' = w := by
  have hb : (b == 0) = false := by simp; omega
  have m0 : 0 ≤ a % b := Int.emod_nonneg _ (by omega)
  have m1 : a % b < b := Int.emod_lt_of_pos _ b0
  have e0 : a - a / b * b = a % b := by have := Int.emod_add_mul_ediv a b; rw [Int.mul_comm] at this; omega
  have d0 : 0 ≤ a / b := Int.ediv_nonneg a0 (by omega)
  have d1 : a / b ≤ a := Int.ediv_le_self _ a0
  have q0 : 0 ≤ a / b * b := Int.mul_nonneg d0 (by omega)
  have q1 : a / b * b ≤ a := by omega
  have HO := hidE (fun w => of1_any (a % b) false false m0 (by omega) w)
  have HZ : Hid (flg (a % b) false false = zn (a % b)) := hidE (by simp [flg])
  rw [HZ.out] at HO
  go_enter Try.func84, Try.ntmps84
  go_wp2_with (go_at_call 88; refine (HO.out _).mono ?_; rintro e w' ⟨rfl, rfl⟩)
  go_ret3
  exact ⟨rfl, rfl⟩
set_option maxHeartbeats 1000000 in
theorem r1_Holds (c ps : Int) (c0 : 0 ≤ c) (c1 : c ≤ 7) (p0 : 0 ≤ ps) (p1 : ps < 4294967296) (w : World) :
    Calls Try.prog 48 #[.int .i64 c, .int .u32 ps] w fun e w' => e = .returned (.bool (holdsL c ps)) ∧ Same w w' := by
  have h16 : Hid ((ps / 16 % 2 == 1) = bitU ps 16) := hidE (by unfold bitU; rw [and_16 ps p0 p1, Bool.eq_iff_iff]; simp; omega)
  have h32 : Hid ((ps / 32 % 2 == 1) = bitU ps 32) := hidE (by unfold bitU; rw [and_32 ps p0 p1, Bool.eq_iff_iff]; simp; omega)
  have h64 : Hid ((ps / 64 % 2 == 1) = bitU ps 64) := hidE (by unfold bitU; rw [and_64 ps p0 p1, Bool.eq_iff_iff]; simp; omega)
  have h128 : Hid ((ps / 128 % 2 == 1) = bitU ps 128) := hidE (by unfold bitU; rw [and_128 ps p0 p1, Bool.eq_iff_iff]; simp; omega)
  rcases (show c = 0 ∨ c = 1 ∨ c = 2 ∨ c = 3 ∨ c = 4 ∨ c = 5 ∨ c = 6 ∨ c = 7 by omega) with rfl | rfl | rfl | rfl | rfl | rfl | rfl | rfl
  all_goals
    go_enter Try.func48, Try.ntmps48
    go_wp2
    go_ret
    refine ⟨?_, Keeps.refl _ _⟩
    first
      | (simp [holdsL, ← h16.out, ← h32.out, ← h64.out, ← h128.out]; done)
      | (simp only [holdsL, ← h16.out, ← h32.out, ← h64.out, ← h128.out]
         generalize (ps / 32 % 2 == 1) = x
         generalize (ps / 128 % 2 == 1) = y
         cases x <;> cases y <;> rfl)
end Go.Proofs.Ytdbfjgmehmbefaa
