/- The reference of layer 1: numbers and flags, as package flags reckons them. -/
import Derived.Test.YtdbfjgmehmbefaaFlags4
import Derived.Test.YtdbfjgmehmbefaaBitsQ
import Derived.LoopTactic
namespace Go.Proofs.Ytdbfjgmehmbefaa
open Go.RowKit

/-- A number, signed. -/
def sg (a : Int) : Int := if 2147483648 ≤ a then a - 4294967296 else a
set_option maxHeartbeats 400000 in
theorem sg_any (a : Int) (a0 : 0 ≤ a) (a1 : a < 4294967296) (w : World) : Calls Try.prog 89 #[.int .u32 a] w fun e w' => e = .returned (.int .i64 (sg a)) ∧ w' = w := by
  unfold sg
  by_cases h : 2147483648 ≤ a
  · rw [if_pos h]
    go_enter Try.func89, Try.ntmps89
    go_wp2
    go_ret
    exact ⟨rfl, rfl⟩
  · rw [if_neg h]
    have h' : a < 2147483648 := by omega
    go_enter Try.func89, Try.ntmps89
    go_wp2
    go_ret
    exact ⟨rfl, rfl⟩
set_option maxHeartbeats 1000000 in
theorem of1_any (r : Int) (c v : Bool) (r0 : 0 ≤ r) (r1 : r < 4294967296) (w : World) : Calls Try.prog 88 #[.int .u32 r, .bool c, .bool v] w fun e w' => e = .returned (.int .u32 (flg r c v)) ∧ w' = w := by
  have HS := hidE (fun w => sg_any r r0 r1 w)
  rcases (show r = 0 ∨ (0 < r ∧ r < 2147483648) ∨ 2147483648 ≤ r by omega) with h | ⟨h, h'⟩ | h
  · subst h
    have e : sg 0 = 0 := rfl
    rw [e] at HS
    cases c <;> cases v
    all_goals
      go_enter Try.func88, Try.ntmps88
      go_wp2_with (go_at_call 89; refine (HS.out _).mono ?_; rintro e w' ⟨rfl, rfl⟩)
      go_ret
      exact ⟨rfl, rfl⟩
  · have e : sg r = r := by unfold sg; rw [if_neg (by omega)]
    rw [e] at HS
    have hr : (r == 0) = false := by simp; omega
    have hz : zn r = 0 := by unfold zn; rw [if_neg (by omega), if_neg (by omega)]
    have HF : Hid (flg r c v = (if c then 64 else 0) + (if v then 128 else 0)) := hidE (by unfold flg; rw [hz]; omega)
    clear e hz
    cases c <;> cases v
    all_goals
      go_enter Try.func88, Try.ntmps88
      go_wp2_with (go_at_call 89; refine (HS.out _).mono ?_; rintro e w' ⟨rfl, rfl⟩)
      go_ret
      exact ⟨by rw [HF.out]; rfl, rfl⟩
  · have e : sg r = r - 4294967296 := by unfold sg; rw [if_pos h]
    rw [e] at HS
    have hr : (r == 0) = false := by simp; omega
    have hz : zn r = 32 := by unfold zn; rw [if_neg (by omega), if_pos h]
    have HF : Hid (flg r c v = 32 + (if c then 64 else 0) + (if v then 128 else 0)) := hidE (by unfold flg; rw [hz])
    have hl : r - 4294967296 < 0 := by omega
    clear e hz
    cases c <;> cases v
    all_goals
      go_enter Try.func88, Try.ntmps88
      go_wp2_with (go_at_call 89; refine (HS.out _).mono ?_; rintro e w' ⟨rfl, rfl⟩)
      go_ret
      exact ⟨by rw [HF.out]; rfl, rfl⟩
/-! The plain laws of the lost sign. -/
theorem top_bit (x : Int) (h0 : 0 ≤ x) (h1 : x < 4294967296) : (x / 2147483648 == 1) = decide (2147483648 ≤ x) := by
  by_cases h : 2147483648 ≤ x
  · simp [h]; omega
  · simp [h]; omega
theorem top_and_xor (a b c d : Int) (a0 : 0 ≤ a) (a1 : a < 4294967296) (b0 : 0 ≤ b) (b1 : b < 4294967296) (c0 : 0 ≤ c) (c1 : c < 4294967296) (d0 : 0 ≤ d) (d1 : d < 4294967296) :
    (bits .and .u32 (bits .xor .u32 a b) (bits .xor .u32 c d) / 2147483648 == 1) = ((decide (2147483648 ≤ a) != decide (2147483648 ≤ b)) && (decide (2147483648 ≤ c) != decide (2147483648 ≤ d))) := by
  have x0 := bits_lo_u32 .xor a b
  have x1 : bits .xor .u32 a b < 4294967296 := by have := bits_hi_u32 .xor a b; omega
  have y0 := bits_lo_u32 .xor c d
  have y1 : bits .xor .u32 c d < 4294967296 := by have := bits_hi_u32 .xor c d; omega
  have z0 := bits_lo_u32 .and (bits .xor .u32 a b) (bits .xor .u32 c d)
  have z1 : bits .and .u32 (bits .xor .u32 a b) (bits .xor .u32 c d) < 4294967296 := by have := bits_hi_u32 .and (bits .xor .u32 a b) (bits .xor .u32 c d); omega
  rw [top_bit _ z0 z1]
  have key : ∀ n : Nat, n < 4294967296 → (decide (2147483648 ≤ (n : Int)) = n.testBit 31) := by
    intro n hn
    rw [Nat.testBit_eq_decide_div_mod_eq]
    rw [show (2 ^ 31 : Nat) = 2147483648 by decide]
    by_cases h : 2147483648 ≤ (n : Int)
    · rw [decide_eq_true h, decide_eq_true (by omega)]
    · rw [decide_eq_false h, decide_eq_false (by omega)]
  obtain ⟨p, hp⟩ := Int.eq_ofNat_of_zero_le a0
  obtain ⟨q, hq⟩ := Int.eq_ofNat_of_zero_le b0
  obtain ⟨r, hr⟩ := Int.eq_ofNat_of_zero_le c0
  obtain ⟨t, ht⟩ := Int.eq_ofNat_of_zero_le d0
  have ex : bits .xor .u32 a b = ((p ^^^ q : Nat) : Int) := by rw [u32_xor a b a0 a1 b0 b1, hp, hq]; rfl
  have ey : bits .xor .u32 c d = ((r ^^^ t : Nat) : Int) := by rw [u32_xor c d c0 c1 d0 d1, hr, ht]; rfl
  have ez : bits .and .u32 (bits .xor .u32 a b) (bits .xor .u32 c d) = (((p ^^^ q) &&& (r ^^^ t) : Nat) : Int) := by rw [u32_and _ _ x0 x1 y0 y1, ex, ey]; rfl
  rw [ez] at z1 ⊢
  rw [key _ (by omega), Nat.testBit_and, Nat.testBit_xor, Nat.testBit_xor, hp, hq, hr, ht, key p (by omega), key q (by omega), key r (by omega), key t (by omega)]
theorem addF_ref (a b : Int) (a0 : 0 ≤ a) (a1 : a < 4294967296) (b0 : 0 ≤ b) (b1 : b < 4294967296) : flg (addR a b) (decide (4294967296 ≤ a + b)) (sg a + sg b != sg (addR a b)) = addF a b := by
  have e0 : addR a b = (a + b) % 4294967296 := rfl
  have r0 : 0 ≤ addR a b := by omega
  have r1 : addR a b < 4294967296 := by omega
  unfold addF
  rw [top_and_xor a (addR a b) b (addR a b) a0 a1 r0 r1 b0 b1 r0 r1]
  have e1 : decide (4294967296 ≤ a + b) = decide (addR a b < a) := by rw [decide_eq_decide, e0]; omega
  rw [e1]
  congr 1
  unfold sg
  rw [Bool.eq_iff_iff]
  generalize addR a b = r at *
  by_cases h1 : 2147483648 ≤ a <;> by_cases h2 : 2147483648 ≤ b <;> by_cases h3 : 2147483648 ≤ r <;> simp [h1, h2, h3] <;> omega
theorem subF_ref (a b : Int) (a0 : 0 ≤ a) (a1 : a < 4294967296) (b0 : 0 ≤ b) (b1 : b < 4294967296) : flg (subR a b) (decide (a < b)) (sg a - sg b != sg (subR a b)) = subF a b := by
  have e0 : subR a b = (a - b) % 4294967296 := rfl
  have r0 : 0 ≤ subR a b := by omega
  have r1 : subR a b < 4294967296 := by omega
  unfold subF
  rw [top_and_xor a b a (subR a b) a0 a1 b0 b1 a0 a1 r0 r1]
  congr 1
  unfold sg
  rw [Bool.eq_iff_iff]
  generalize subR a b = r at *
  by_cases h1 : 2147483648 ≤ a <;> by_cases h2 : 2147483648 ≤ b <;> by_cases h3 : 2147483648 ≤ r <;> simp [h1, h2, h3] <;> omega
end Go.Proofs.Ytdbfjgmehmbefaa
