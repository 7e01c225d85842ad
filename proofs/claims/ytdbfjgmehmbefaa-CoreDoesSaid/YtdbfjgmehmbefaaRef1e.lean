/- The reference of layer 1: the walks of its shifts. -/
import Derived.Test.YtdbfjgmehmbefaaRef1d
namespace Go.Proofs.Ytdbfjgmehmbefaa
open Go.RowKit

theorem nx (n : Int) (_h0 : 0 ≤ n) : ∃ m : Nat, n % 32 = (m : Int) ∧ m < 32 := ⟨(n % 32).toNat, by omega, by omega⟩
theorem flg_zn (r : Int) : flg r false false = zn r := by simp [flg]
theorem up_zero (a : Int) (a0 : 0 ≤ a) (a1 : a < 4294967296) : upR a 0 = a := by rw [show upR a 0 = a * 1 % 4294967296 from rfl]; omega
theorem up_fin (a n : Int) (m : Nat) (hm : n % 32 = (m : Int)) (a0 : 0 ≤ a) (a1 : a < 4294967296) : ((upR a m, flg (upR a m) (upS a m) false) : Int × Int) = shlL a n := by
  unfold shlL
  rw [hm]
  by_cases h : m = 0
  · subst h
    rw [show ((0 : Nat) : Int) = 0 from rfl, if_pos rfl, up_zero a a0 a1]
    show (a, flg a false false) = _
    rw [flg_zn]
  · rw [if_neg (by omega)]
    unfold upS
    rw [if_neg h]
set_option maxHeartbeats 4000000 in
set_option maxRecDepth 100000 in
theorem r1_Shift_up (a n : Int) (a0 : 0 ≤ a) (a1 : a < 4294967296) (n0 : 0 ≤ n) (n1 : n < 4294967296) (w : World) :
    Calls Try.prog 85 #[.bool true, .int .u32 a, .int .u32 n] w fun e w' => e = .returned (.tuple #[.int .u32 (shlL a n).1, .int .u32 (shlL a n).2]) ∧ w' = w := by
  obtain ⟨m, hm, m32⟩ := nx n n0
  rw [← up_fin a n m hm a0 a1]
  have HZ := hidE (up_zero a a0 a1)
  go_enter Try.func85, Try.ntmps85
  go_wp2
  go_loop [1, 8, 9] (fun t1 t8 t9 => ∃ k : Nat, k ≤ m ∧ t9 = .int .u32 k ∧ t1 = .int .u32 (upR a k) ∧ t8 = .bool (upS a k)) (fun _ _ t9 => m - (intOf t9).toNat)
  case atStart => exact ⟨0, by omega, rfl, by rw [show ((0 : Nat) : Int) = 0 from rfl, HZ.out], rfl⟩
  case round =>
    obtain ⟨k, hk, rfl, rfl, rfl⟩ := hrel
    by_cases hlt : k < m
    · have hs := up_step a k
      have hb := up_bit a k (by omega) a0 a1
      obtain ⟨l0, l1⟩ := upR_bd a k
      have HB : Hid (∀ w, Calls Try.prog 114 #[.int .u32 (upR a k), .int .i64 31] w fun e w' => e = .returned (.bool (upS a (k + 1))) ∧ w' = w) := hidE (fun w => by rw [← hb]; exact bit1_any (upR a k) 31 (by omega) l0 l1 w)
      have HS := hidE hs
      clear hs hb
      obtain ⟨c, hc⟩ : ∃ c, upS a (k + 1) = c := ⟨_, rfl⟩
      rw [hc] at HB
      have HQ := hidE hc
      clear hc
      generalize upR a k = x at *
      go_wp2_with (go_at_call 114; refine (HB.out _).mono ?_; rintro e w' ⟨rfl, rfl⟩)
      go_round
      case rel => exact ⟨k + 1, by omega, by go_num, by rw [HS.out], by rw [HQ.out]⟩
      case measure => simp [intOf]; omega
    · obtain rfl : k = m := by omega
      obtain ⟨l0, l1⟩ := upR_bd a k
      have HO := hidE (fun c w => of1_any (upR a k) c false l0 l1 w)
      go_wp2_with (go_at_call 88; refine (HO.out _ _).mono ?_; rintro e w' ⟨rfl, rfl⟩)
      go_ret2
      exact ⟨rfl, rfl⟩
theorem down_zero (a : Int) (_a0 : 0 ≤ a) (_a1 : a < 4294967296) : downR a 0 = a := by rw [show downR a 0 = a / 1 from rfl]; omega
theorem down_fin (a n : Int) (m : Nat) (hm : n % 32 = (m : Int)) (a0 : 0 ≤ a) (a1 : a < 4294967296) : ((downR a m, flg (downR a m) (downS a m) false) : Int × Int) = shrL a n := by
  unfold shrL
  rw [hm]
  by_cases h : m = 0
  · subst h
    rw [show ((0 : Nat) : Int) = 0 from rfl, if_pos rfl, down_zero a a0 a1]
    show (a, flg a false false) = _
    rw [flg_zn]
  · rw [if_neg (by omega)]
    unfold downS
    rw [if_neg h]
set_option maxHeartbeats 4000000 in
set_option maxRecDepth 100000 in
theorem r1_Shift_down (a n : Int) (a0 : 0 ≤ a) (a1 : a < 4294967296) (n0 : 0 ≤ n) (n1 : n < 4294967296) (w : World) :
    Calls Try.prog 85 #[.bool false, .int .u32 a, .int .u32 n] w fun e w' => e = .returned (.tuple #[.int .u32 (shrL a n).1, .int .u32 (shrL a n).2]) ∧ w' = w := by
  obtain ⟨m, hm, m32⟩ := nx n n0
  rw [← down_fin a n m hm a0 a1]
  have HZ := hidE (down_zero a a0 a1)
  go_enter Try.func85, Try.ntmps85
  go_wp2
  go_loop [1, 8, 9] (fun t1 t8 t9 => ∃ k : Nat, k ≤ m ∧ t9 = .int .u32 k ∧ t1 = .int .u32 (downR a k) ∧ t8 = .bool (downS a k)) (fun _ _ t9 => m - (intOf t9).toNat)
  case atStart => exact ⟨0, by omega, rfl, by rw [show ((0 : Nat) : Int) = 0 from rfl, HZ.out], rfl⟩
  case round =>
    obtain ⟨k, hk, rfl, rfl, rfl⟩ := hrel
    by_cases hlt : k < m
    · have hs := down_step a k
      have hb := down_bit a k a0 a1
      obtain ⟨l0, l1⟩ := downR_bd a k a0 a1
      have HB : Hid (∀ w, Calls Try.prog 114 #[.int .u32 (downR a k), .int .i64 0] w fun e w' => e = .returned (.bool (downS a (k + 1))) ∧ w' = w) := hidE (fun w => by rw [← hb]; exact bit1_any (downR a k) 0 (by omega) l0 l1 w)
      have HS := hidE hs
      clear hs hb
      obtain ⟨c, hc⟩ : ∃ c, downS a (k + 1) = c := ⟨_, rfl⟩
      rw [hc] at HB
      have HQ := hidE hc
      clear hc
      generalize downR a k = x at *
      go_wp2_with (go_at_call 114; refine (HB.out _).mono ?_; rintro e w' ⟨rfl, rfl⟩)
      go_round
      case rel => exact ⟨k + 1, by omega, by go_num, by rw [HS.out], by rw [HQ.out]⟩
      case measure => simp [intOf]; omega
    · obtain rfl : k = m := by omega
      obtain ⟨l0, l1⟩ := downR_bd a k a0 a1
      have HO := hidE (fun c w => of1_any (downR a k) c false l0 l1 w)
      go_wp2_with (go_at_call 88; refine (HO.out _ _).mono ?_; rintro e w' ⟨rfl, rfl⟩)
      go_ret2
      exact ⟨rfl, rfl⟩
theorem round_zero (a : Int) (a0 : 0 ≤ a) (a1 : a < 4294967296) : roundR a 0 = a := by rw [show roundR a 0 = roundR a ((0 : Nat) : Int) from rfl, round_eq a 0 (by omega) a0 a1]; unfold roundN; rw [show pw 0 = 1 by decide, Int.emod_one, Int.zero_mul]; omega
theorem round_fin (a n : Int) (m : Nat) (hm : n % 32 = (m : Int)) (a0 : 0 ≤ a) (a1 : a < 4294967296) : ((roundR a m, flg (roundR a m) (roundS a m) false) : Int × Int) = rorL a n := by
  unfold rorL
  rw [hm]
  by_cases h : m = 0
  · subst h
    rw [show ((0 : Nat) : Int) = 0 from rfl, if_pos rfl, round_zero a a0 a1]
    show (a, flg a false false) = _
    rw [flg_zn]
  · rw [if_neg (by omega)]
    unfold roundS
    rw [if_neg h]
set_option maxHeartbeats 4000000 in
set_option maxRecDepth 100000 in
theorem r1_Down_round (a n : Int) (a0 : 0 ≤ a) (a1 : a < 4294967296) (n0 : 0 ≤ n) (n1 : n < 4294967296) (w : World) :
    Calls Try.prog 82 #[.bool true, .int .u32 a, .int .u32 n] w fun e w' => e = .returned (.tuple #[.int .u32 (rorL a n).1, .int .u32 (rorL a n).2]) ∧ w' = w := by
  obtain ⟨m, hm, m32⟩ := nx n n0
  rw [← round_fin a n m hm a0 a1]
  have HZ := hidE (round_zero a a0 a1)
  go_enter Try.func82, Try.ntmps82
  go_wp2
  go_loop [1, 8, 9] (fun t1 t8 t9 => ∃ k : Nat, k ≤ m ∧ t9 = .int .u32 k ∧ t1 = .int .u32 (roundR a k) ∧ t8 = .bool (roundS a k)) (fun _ _ t9 => m - (intOf t9).toNat)
  case atStart => exact ⟨0, by omega, rfl, by rw [show ((0 : Nat) : Int) = 0 from rfl, HZ.out], rfl⟩
  case round =>
    obtain ⟨k, hk, rfl, rfl, rfl⟩ := hrel
    by_cases hlt : k < m
    · have hs := round_step a k (by omega) a0 a1
      have hb := round_bit a k (by omega) a0 a1
      obtain ⟨l0, l1⟩ := roundR_bd a k
      have HB : Hid (∀ w, Calls Try.prog 114 #[.int .u32 (roundR a k), .int .i64 0] w fun e w' => e = .returned (.bool (roundS a (k + 1))) ∧ w' = w) := hidE (fun w => by rw [← hb]; exact bit1_any (roundR a k) 0 (by omega) l0 l1 w)
      have HC : Hid (∀ w, Calls Try.prog 114 #[.int .u32 (roundR a k), .int .i64 31] w fun e w' => e = .returned (.bool (bitB (roundR a k) 31)) ∧ w' = w) := hidE (fun w => bit1_any (roundR a k) 31 (by omega) l0 l1 w)
      have HX := hidE hb
      have HS := hidE hs
      clear hs hb
      cases h0 : roundS a (k + 1) <;> cases h31 : bitB (roundR a k) 31
      all_goals
        rw [h0] at HB HX
        rw [h31] at HC
        have HS2 := HS.out
        rw [HX.out] at HS2
        have HS3 := hidE HS2
        clear h31 HS2 HS
        have H0 := hidE h0
        clear h0
        go_wp2_with (go_at_call 114; (first | with_reducible refine (HB.out _).mono ?_ | with_reducible refine (HC.out _).mono ?_); rintro e w' ⟨rfl, rfl⟩)
        go_round
        case rel => exact ⟨k + 1, by omega, by go_num, by rw [HS3.out]; simp, by rw [H0.out]⟩
        case measure => simp [intOf]; omega
    · obtain rfl : k = m := by omega
      obtain ⟨l0, l1⟩ := roundR_bd a k
      have HO := hidE (fun c w => of1_any (roundR a k) c false l0 l1 w)
      go_wp2_with (go_at_call 88; refine (HO.out _ _).mono ?_; rintro e w' ⟨rfl, rfl⟩)
      go_ret2
      exact ⟨rfl, rfl⟩
theorem sar_zero (a : Int) (a0 : 0 ≤ a) (a1 : a < 4294967296) : sarR a 0 = a := by rw [show sarR a 0 = sarR a ((0 : Nat) : Int) from rfl, sarR_pw a 0 a0 a1, show pw 0 = 1 by decide]; unfold sg; split <;> omega
theorem sar_fin (a n : Int) (m : Nat) (hm : n % 32 = (m : Int)) (a0 : 0 ≤ a) (a1 : a < 4294967296) : ((sarR a m, flg (sarR a m) (downS a m) false) : Int × Int) = sarL a n := by
  unfold sarL
  rw [hm]
  by_cases h : m = 0
  · subst h
    rw [show ((0 : Nat) : Int) = 0 from rfl, if_pos rfl, sar_zero a a0 a1]
    show (a, flg a false false) = _
    rw [flg_zn]
  · rw [if_neg (by omega)]
    unfold downS
    rw [if_neg h]
set_option maxHeartbeats 4000000 in
set_option maxRecDepth 100000 in
theorem r1_Down_sar (a n : Int) (a0 : 0 ≤ a) (a1 : a < 4294967296) (n0 : 0 ≤ n) (n1 : n < 4294967296) (w : World) :
    Calls Try.prog 82 #[.bool false, .int .u32 a, .int .u32 n] w fun e w' => e = .returned (.tuple #[.int .u32 (sarL a n).1, .int .u32 (sarL a n).2]) ∧ w' = w := by
  obtain ⟨m, hm, m32⟩ := nx n n0
  rw [← sar_fin a n m hm a0 a1]
  have HZ := hidE (sar_zero a a0 a1)
  go_enter Try.func82, Try.ntmps82
  go_wp2
  go_loop [1, 8, 9] (fun t1 t8 t9 => ∃ k : Nat, k ≤ m ∧ t9 = .int .u32 k ∧ t1 = .int .u32 (sarR a k) ∧ t8 = .bool (downS a k)) (fun _ _ t9 => m - (intOf t9).toNat)
  case atStart => exact ⟨0, by omega, rfl, by rw [show ((0 : Nat) : Int) = 0 from rfl, HZ.out], rfl⟩
  case round =>
    obtain ⟨k, hk, rfl, rfl, rfl⟩ := hrel
    by_cases hlt : k < m
    · have hs := sar_step a k a0 a1
      have hb := sar_bit a k (by omega) a0 a1
      obtain ⟨l0, l1⟩ := sarR_bd a k
      have HB : Hid (∀ w, Calls Try.prog 114 #[.int .u32 (sarR a k), .int .i64 0] w fun e w' => e = .returned (.bool (downS a (k + 1))) ∧ w' = w) := hidE (fun w => by rw [← hb]; exact bit1_any (sarR a k) 0 (by omega) l0 l1 w)
      have HC : Hid (∀ w, Calls Try.prog 114 #[.int .u32 (sarR a k), .int .i64 31] w fun e w' => e = .returned (.bool (bitB (sarR a k) 31)) ∧ w' = w) := hidE (fun w => bit1_any (sarR a k) 31 (by omega) l0 l1 w)
      have HX := hidE hb
      have HS := hidE hs
      clear hs hb
      cases h0 : downS a (k + 1) <;> cases h31 : bitB (sarR a k) 31
      all_goals
        rw [h0] at HB HX
        rw [h31] at HC
        have HS2 := HS.out
        rw [h31] at HS2
        have HS3 := hidE HS2
        clear h31 HS2 HS
        have H0 := hidE h0
        clear h0
        go_wp2_with (go_at_call 114; (first | with_reducible refine (HB.out _).mono ?_ | with_reducible refine (HC.out _).mono ?_); rintro e w' ⟨rfl, rfl⟩)
        go_round
        case rel => exact ⟨k + 1, by omega, by go_num, by rw [HS3.out]; simp, by rw [H0.out]⟩
        case measure => simp [intOf]; omega
    · obtain rfl : k = m := by omega
      obtain ⟨l0, l1⟩ := sarR_bd a k
      have HO := hidE (fun c w => of1_any (sarR a k) c false l0 l1 w)
      go_wp2_with (go_at_call 88; refine (HO.out _ _).mono ?_; rintro e w' ⟨rfl, rfl⟩)
      go_ret2
      exact ⟨rfl, rfl⟩
set_option maxHeartbeats 1000000 in
theorem r1_Div (a b : Int) (a0 : 0 ≤ a) (a1 : a < 4294967296) (b0 : 0 < b) (_b1 : b < 4294967296) (w : World) :
    Calls Try.prog 87 #[.int .u32 a, .int .u32 b] w fun e w' => e = .returned (.tuple #[.int .u32 (a / b), .int .u32 (zn (a / b)), .bool true]) ∧ Same w w' := by
  have hb : (b == 0) = false := by simp; omega
  have d0 : 0 ≤ a / b := Int.ediv_nonneg a0 (by omega)
  have d1 : a / b ≤ a := Int.ediv_le_self _ a0
  have HO := hidE (fun w => of1_any (a / b) false false d0 (by omega) w)
  rw [flg_zn] at HO
  have hb0 : ¬ b = 0 := by omega
  have hw : IntKind.u32.wrap (a.tdiv b) = a / b := by
    rw [Int.tdiv_eq_ediv_of_nonneg a0, IntKind.wrap_u32', Int.emod_eq_of_lt d0 (by omega)]
  go_enter Try.func87, Try.ntmps87
  go_wp2_with fail
  refine wp_region_ra [0, 1, 2, 3, 4, 5, 6, 7, 8, 9] [] 0 (Same _) (by kernel_rfl) (by kernel_rfl) (fun u u' h k => Keeps.trans h k) (Keeps.refl _ _).drew ?_
  simp only [opsOf, List.filterMap_cons, List.filterMap_nil, List.getElem?_cons_zero, List.getElem?_cons_succ]
  repeat (refine seqV_run (v := ?_) rfl (fun u hu => ?_) ?_; rotate_left; (focus (obtain ⟨hc, hf, hr, hl, hn, hm⟩ := same_facts hu; clear hu; go_simp; first | done | with_reducible rfl)); (try simp only [Act.put, List.setIfInBounds_toArray, List.set_cons_zero, List.set_cons_succ]))
  refine seqV_call (f := 88) (args := #[.int .u32 (a / b), .bool false, .bool false]) (v := .int .u32 (zn (a / b))) rfl (fun u hu => ?_) (fun u _ => (HO.out u).mono fun e w' h => ⟨h.1, by rw [h.2]; exact Keeps.refl _ _⟩) ?_
  · go_simp
  simp only [Act.put, List.setIfInBounds_toArray, List.set_cons_zero, List.set_cons_succ]
  repeat (refine seqV_run (v := ?_) rfl (fun u hu => ?_) ?_; rotate_left; (focus (obtain ⟨hc, hf, hr, hl, hn, hm⟩ := same_facts hu; clear hu; go_simp; first | done | with_reducible rfl)); (try simp only [Act.put, List.setIfInBounds_toArray, List.set_cons_zero, List.set_cons_succ]))
  refine seqV_nil ?_
  refine tailR_zero fun u hu _ => ?_
  go_wp2
  go_ret3
  exact ⟨rfl, hu⟩
end Go.Proofs.Ytdbfjgmehmbefaa
