/- Package walk: May, both. Package walk: both. Package walk: what Look reckons, in plain numbers. -/
import Derived.Test.YtjkjnomhggmplaaGreatRamN
import Derived.Test.YtjkjnomhggmplaaGreatBitsP
namespace Go.Proofs.YtjkjnomhggmplaaGreat
open Go.RowKit

/-- Which access bits let. -/
def mayL (b kind : Int) (user : Bool) : Bool := decide (b % 2 = 1) && (!user || decide (b / 4 % 2 = 1)) && (if kind = 1 then true else if kind = 2 then decide (b / 8 % 2 = 0) else if kind = 3 then decide (b / 2 % 2 = 1) && decide (b / 8 % 2 = 0) else false)
theorem and_1 (v : Int) (h0 : 0 ≤ v) (h1 : v < 4294967296) : bits .and .u32 v 1 = v % 2 := by
  have := and_bit v 0 (by omega) h0 h1
  simpa using this
theorem and_2 (v : Int) (h0 : 0 ≤ v) (h1 : v < 4294967296) : bits .and .u32 v 2 = v / 2 % 2 * 2 := and_bit v 1 (by omega) h0 h1
theorem and_4 (v : Int) (h0 : 0 ≤ v) (h1 : v < 4294967296) : bits .and .u32 v 4 = v / 4 % 2 * 4 := and_bit v 2 (by omega) h0 h1
theorem and_8 (v : Int) (h0 : 0 ≤ v) (h1 : v < 4294967296) : bits .and .u32 v 8 = v / 8 % 2 * 8 := and_bit v 3 (by omega) h0 h1
set_option maxHeartbeats 4000000 in
theorem walkMay_any (b kind : Int) (user : Bool) (w : World) (b0 : 0 ≤ b) (b1 : b < 4294967296) :
    Calls Tryz.prog 107 #[.int .u32 b, .int .i64 kind, .bool user] w fun e w' => e = .returned (.bool (mayL b kind user)) ∧ w = w' := by
  have e1 := and_1 b b0 b1
  have e2 := and_2 b b0 b1
  have e4 := and_4 b b0 b1
  have e8 := and_8 b b0 b1
  unfold mayL
  obtain ⟨x1, h1⟩ : ∃ x, x = b % 2 := ⟨_, rfl⟩
  obtain ⟨x2, h2⟩ : ∃ x, x = b / 2 % 2 := ⟨_, rfl⟩
  obtain ⟨x4, h4⟩ : ∃ x, x = b / 4 % 2 := ⟨_, rfl⟩
  obtain ⟨x8, h8⟩ : ∃ x, x = b / 8 % 2 := ⟨_, rfl⟩
  have r1 : x1 = 0 ∨ x1 = 1 := by omega
  have r2 : x2 = 0 ∨ x2 = 1 := by omega
  have r4 : x4 = 0 ∨ x4 = 1 := by omega
  have r8 : x8 = 0 ∨ x8 = 1 := by omega
  rw [← h1, ← h2, ← h4, ← h8]
  rw [← h1] at e1
  rw [← h2] at e2
  rw [← h4] at e4
  rw [← h8] at e8
  clear h1 h2 h4 h8
  rcases r1 with rfl | rfl
  · go_enter Tryz.func107, Tryz.ntmps107
    go_wp2
    all_goals (go_ret; exact ⟨rfl, rfl⟩)
  rcases (show kind = 1 ∨ kind = 2 ∨ kind = 3 ∨ (kind ≠ 1 ∧ kind ≠ 2 ∧ kind ≠ 3) by omega) with rfl | rfl | rfl | ⟨k1, k2, k3⟩
  all_goals cases user
  all_goals rcases r4 with rfl | rfl
  all_goals rcases r8 with rfl | rfl
  all_goals rcases r2 with rfl | rfl
  all_goals
    go_enter Tryz.func107, Tryz.ntmps107
    go_wp2
    go_ret
    exact ⟨by simp [*], rfl⟩
end Go.Proofs.YtjkjnomhggmplaaGreat
namespace Go.Proofs.YtjkjnomhggmplaaGreat
open Go.RowKit

/-- One entry more. -/
def stepN (v t : Nat) : Nat := (v &&& (t ||| 8)) ||| (t &&& 8)
theorem and_mod16 (v e : Nat) (hv : v < 16) : v &&& e = v &&& (e % 16) := by
  have h1 : v = v &&& 15 := by rw [show (15 : Nat) = 2 ^ 4 - 1 from rfl, Nat.and_two_pow_sub_one_eq_mod, Nat.mod_eq_of_lt hv]
  have h2 : e % 16 = e &&& 15 := by rw [show (15 : Nat) = 2 ^ 4 - 1 from rfl, Nat.and_two_pow_sub_one_eq_mod]
  rw [h2]
  conv => lhs; rw [h1]
  rw [Nat.and_assoc, Nat.and_comm 15 e]
theorem stepN_mod (v e : Nat) (hv : v < 16) : stepN v e = stepN v (e % 16) := by
  unfold stepN
  have h1 : (e ||| 8) % 16 = ((e % 16) ||| 8) % 16 := by
    rw [show (16 : Nat) = 2 ^ 4 from rfl, Nat.or_mod_two_pow, Nat.or_mod_two_pow, Nat.mod_mod]
  rw [and_mod16 v (e ||| 8) hv, and_mod16 v (e % 16 ||| 8) hv, h1, Nat.and_comm e 8, Nat.and_comm (e % 16) 8, and_mod16 8 e (by omega)]
theorem stepN_lt (v e : Nat) (hv : v < 16) : stepN v e < 16 := by
  unfold stepN
  have a1 : v &&& (e ||| 8) < 2 ^ 4 := Nat.lt_of_le_of_lt Nat.and_le_left hv
  have a2 : e &&& 8 < 2 ^ 4 := Nat.lt_of_le_of_lt Nat.and_le_right (by omega)
  exact Nat.or_lt_two_pow a1 a2
theorem step_bits (v e : Nat) (hv : v < 16) (he : e < 4294967296) : bits .or .u32 (bits .and .u32 (v : Int) (bits .or .u32 (e : Int) 8)) (bits .and .u32 (e : Int) 8) = (stepN v e : Nat) := by
  have h1 := u32_or_nat e 8 he (by omega)
  have ho : e ||| 8 < 4294967296 := Nat.or_lt_two_pow (n := 32) he (by omega)
  have h2 := u32_and_nat v (e ||| 8) (by omega) ho
  have h3 := u32_and_nat e 8 he (by omega)
  have h4 := u32_or_nat (v &&& (e ||| 8)) (e &&& 8) (Nat.lt_of_le_of_lt Nat.and_le_left (by omega)) (Nat.lt_of_le_of_lt Nat.and_le_left he)
  have e8 : ((8 : Nat) : Int) = 8 := rfl
  rw [e8] at h1 h3
  rw [h1, h2, h3, h4]; rfl

def accN (x y : Nat) : Nat → Nat
  | 0 => 7
  | 1 => stepN 7 x
  | _ => stepN (stepN 7 x) y
set_option maxHeartbeats 1000000 in
theorem both_any (w : World) (T : TypeId) (g x y : Nat) (hx : x < 4294967296) (hy : y < 4294967296) (hg : w.heap[g]? = some (.cells #[.int .u32 (x : Int), .int .u32 (y : Int)] T (0, 0))) :
    Calls Tryz.prog 104 #[.slice (some ⟨g, 0, none⟩) 2 2] w fun e w' => e = .returned (.int .u32 ((accN x y 2 : Nat) : Int)) ∧ w = w' := by
  have c0 : w.cell? ⟨g, 0, none⟩ = some (.int .u32 (x : Int)) := by rw [cell_of hg]; rfl
  have c1 : w.cell? ⟨g, 1, none⟩ = some (.int .u32 (y : Int)) := by rw [cell_of hg]; rfl
  have s1 := step_bits 7 x (by omega) hx
  have s2 := step_bits (stepN 7 x) y (stepN_lt _ _ (by omega)) hy
  have e7 : ((7 : Nat) : Int) = 7 := rfl
  rw [e7] at s1
  go_enter Tryz.func104, Tryz.ntmps104
  go_wp2_with fail
  go_loop [3, 8] (fun t3 t8 => ∃ k : Nat, k ≤ 2 ∧ t8 = .int .i64 k ∧ t3 = .int .u32 ((accN x y k : Nat) : Int)) (fun _ t8 => 2 - (intOf t8).toNat)
  case atStart => exact ⟨0, by omega, rfl, rfl⟩
  case round =>
    obtain ⟨k, hk, rfl, rfl⟩ := hrel
    match k, hk with
    | 0, _ =>
      go_wp2
      exact ⟨⟨1, by omega, rfl, congrArg (Value.int .u32) s1⟩, by decide⟩
    | 1, _ =>
      go_wp2
      exact ⟨⟨2, by omega, rfl, congrArg (Value.int .u32) s2⟩, by decide⟩
    | 2, _ =>
      go_wp2
      go_ret
      exact ⟨rfl, rfl⟩
end Go.Proofs.YtjkjnomhggmplaaGreat
namespace Go.Proofs.YtjkjnomhggmplaaGreat
open Go.RowKit

theorem and_63 (v : Int) (h0 : 0 ≤ v) (h1 : v < 4294967296) : bits .and .u32 v 63 = v % 64 := by
  rw [u32_and v 63 h0 h1 (by omega) (by omega)]
  rw [show Int.toNat 63 = 2 ^ 6 - 1 from rfl, Nat.and_two_pow_sub_one_eq_mod]; omega
theorem and_15 (v : Int) (h0 : 0 ≤ v) (h1 : v < 4294967296) : bits .and .u32 v 15 = v % 16 := by
  rw [u32_and v 15 h0 h1 (by omega) (by omega)]
  rw [show Int.toNat 15 = 2 ^ 4 - 1 from rfl, Nat.and_two_pow_sub_one_eq_mod]; omega
theorem nat_andNot63 (n : Nat) (h : n < 4294967296) : n &&& (4294967295 - 63) = n / 64 * 64 := by
  have hd : n = (n / 64) * 2 ^ 6 + n % 64 := by omega
  apply Nat.eq_of_testBit_eq
  intro i
  have e1 : (4294967295 - 63 : Nat) = 2 ^ 6 * (2 ^ 26 - 1) := by decide
  rw [Nat.testBit_and, e1, Nat.testBit_two_pow_mul, show n / 64 * 64 = 2 ^ 6 * (n / 2 ^ 6) from by omega, Nat.testBit_two_pow_mul, Nat.testBit_two_pow_sub_one, Nat.testBit_div_two_pow]
  by_cases h6 : 6 ≤ i
  · rw [show i - 6 + 6 = i from by omega]
    by_cases h2 : i - 6 < 26
    · simp [h6, h2]
    · have : n.testBit i = false := Nat.testBit_lt_two_pow (Nat.lt_of_lt_of_le h (by have : 2 ^ 32 ≤ 2 ^ i := Nat.pow_le_pow_right (by omega) (by omega); omega))
      simp [this]
  · simp [h6]
theorem andNot_63 (v : Int) (h0 : 0 ≤ v) (h1 : v < 4294967296) : bits .andNot .u32 v 63 = v - v % 64 := by
  rw [u32_andNot v 63 h0 h1 (by omega) (by omega), show Int.toNat 63 = 63 from rfl, nat_andNot63 _ (by omega)]; omega
theorem or_63 (v u : Int) (h0 : 0 ≤ v) (h1 : v < 4294967296) (u0 : 0 ≤ u) (u1 : u < 64) : bits .or .u32 (v - v % 64) u = v - v % 64 + u := by
  have h := or_add32 u (v / 64) 6 (by omega) u0 (by simpa using u1) (by omega) (by simp; omega)
  simp at h
  rw [u32_or _ _ (by omega) (by omega) u0 (by omega), Nat.or_comm]
  rw [u32_or _ _ u0 (by omega) (by omega) (by omega)] at h
  rw [show v - v % 64 = v / 64 * 64 from by omega, h]; omega
end Go.Proofs.YtjkjnomhggmplaaGreat
