/- The reference of layer 8: made, flagged, moved. -/
import Derived.Test.YtdbfjgmehmbefaaRef1e
import Derived.Test.YtdbfjgmehmbefaaCoreS
import Derived.Test.YtdbfjgmehmbefaaCore10
import Derived.Test.YtdbfjgmehmbefaaRc
namespace Go.Proofs.Ytdbfjgmehmbefaa
open Go.RowKit
attribute [local go_sem ↓] x_ldS x_stS x_ldI x_stI x_ldA x_stA x_ldF x_stF
attribute [local go_sem] ne_s1 en_s1 ne_s2 en_s2 ne_s3 en_s3 ne_s4 en_s4 ne_s5 en_s5 ne_s6 en_s6 ne_s7 en_s7 ne_s8 en_s8 ne_s9 en_s9 ne_s10 en_s10 ne_s11 en_s11 lt_s2 lt_s3 lt_s4 lt_s5 lt_s6 lt_s7 lt_s8 lt_s9 lt_s10 lt_s11 rowAt_at rowAt_old rowAt_drew rowAt_drewN setRow_drew setRow_at setRow_old setCell_row setRow_setRow rowAt_setRow_eq rowAt_setRow_ne cell_setRow_eq cell_setRow_ne frozen_setRow_eq frozen_setRow_ne ones_lit oc_int oc_bool oc_str oc_ptr oc_sl oc_map oc_fn oc_nf oc_ni oc_if ld_S st_S ld_I st_I ld_A st_A ld_F st_F sa_size sa_one ac_size fl_size ac_one fl_one fl_c fl_a fg_c fg_a sa_pc sa_ps sg_pc sg_ps sa_r6 sa_r7 sg_r6 sg_r7 sa_r sg_r ss_pc ss_ps ss_r6 ss_r7 ss_r st0_eq

set_option maxHeartbeats 1000000 in
set_option maxRecDepth 100000 in
theorem made_17 (a b : Int) (a0 : 0 ≤ a) (a1 : a < 4294967296) (b0 : 0 ≤ b) (b1 : b < 4294967296) (w : World) :
    Calls Try.prog 44 #[.int .u8 17, .int .u32 a, .int .u32 b] w fun e w' => e = .returned (.tuple #[.int .u32 (sumL 17 a b).1, .int .u32 (sumL 17 a b).2, .bool true]) ∧ Same w w' := by
  go_enter Try.func44, Try.ntmps44
  go_wp2_with (go_at_call 46; refine (r1_Add a b a0 a1 b0 b1 _).mono ?_; rintro e w' ⟨rfl, rfl⟩)
  go_ret3
  exact ⟨rfl, Keeps.refl _ _⟩
set_option maxHeartbeats 1000000 in
set_option maxRecDepth 100000 in
theorem made_18 (a b : Int) (a0 : 0 ≤ a) (a1 : a < 4294967296) (b0 : 0 ≤ b) (b1 : b < 4294967296) (w : World) :
    Calls Try.prog 44 #[.int .u8 18, .int .u32 a, .int .u32 b] w fun e w' => e = .returned (.tuple #[.int .u32 (sumL 18 a b).1, .int .u32 (sumL 18 a b).2, .bool true]) ∧ Same w w' := by
  go_enter Try.func44, Try.ntmps44
  go_wp2_with (go_at_call 80; refine (r1_Sub a b a0 a1 b0 b1 _).mono ?_; rintro e w' ⟨rfl, rfl⟩)
  go_ret3
  exact ⟨rfl, Keeps.refl _ _⟩
set_option maxHeartbeats 1000000 in
set_option maxRecDepth 100000 in
theorem made_19 (a b : Int) (a0 : 0 ≤ a) (a1 : a < 4294967296) (b0 : 0 ≤ b) (b1 : b < 4294967296) (w : World) :
    Calls Try.prog 44 #[.int .u8 19, .int .u32 a, .int .u32 b] w fun e w' => e = .returned (.tuple #[.int .u32 (sumL 19 a b).1, .int .u32 (sumL 19 a b).2, .bool true]) ∧ Same w w' := by
  go_enter Try.func44, Try.ntmps44
  go_wp2_with (go_at_call 81; refine (r1_Logic0 a b a0 a1 b0 b1 _).mono ?_; rintro e w' ⟨rfl, rfl⟩)
  go_ret3
  exact ⟨rfl, Keeps.refl _ _⟩
set_option maxHeartbeats 1000000 in
set_option maxRecDepth 100000 in
theorem made_20 (a b : Int) (a0 : 0 ≤ a) (a1 : a < 4294967296) (b0 : 0 ≤ b) (b1 : b < 4294967296) (w : World) :
    Calls Try.prog 44 #[.int .u8 20, .int .u32 a, .int .u32 b] w fun e w' => e = .returned (.tuple #[.int .u32 (sumL 20 a b).1, .int .u32 (sumL 20 a b).2, .bool true]) ∧ Same w w' := by
  go_enter Try.func44, Try.ntmps44
  go_wp2_with (go_at_call 81; refine (r1_Logic1 a b a0 a1 b0 b1 _).mono ?_; rintro e w' ⟨rfl, rfl⟩)
  go_ret3
  exact ⟨rfl, Keeps.refl _ _⟩
set_option maxHeartbeats 1000000 in
set_option maxRecDepth 100000 in
theorem made_21 (a b : Int) (a0 : 0 ≤ a) (a1 : a < 4294967296) (b0 : 0 ≤ b) (b1 : b < 4294967296) (w : World) :
    Calls Try.prog 44 #[.int .u8 21, .int .u32 a, .int .u32 b] w fun e w' => e = .returned (.tuple #[.int .u32 (sumL 21 a b).1, .int .u32 (sumL 21 a b).2, .bool true]) ∧ Same w w' := by
  go_enter Try.func44, Try.ntmps44
  go_wp2_with (go_at_call 81; refine (r1_Logic2 a b a0 a1 b0 b1 _).mono ?_; rintro e w' ⟨rfl, rfl⟩)
  go_ret3
  exact ⟨rfl, Keeps.refl _ _⟩
set_option maxHeartbeats 1000000 in
set_option maxRecDepth 100000 in
theorem made_22 (a b : Int) (a0 : 0 ≤ a) (a1 : a < 4294967296) (b0 : 0 ≤ b) (b1 : b < 4294967296) (w : World) :
    Calls Try.prog 44 #[.int .u8 22, .int .u32 a, .int .u32 b] w fun e w' => e = .returned (.tuple #[.int .u32 (sumL 22 a b).1, .int .u32 (sumL 22 a b).2, .bool true]) ∧ Same w w' := by
  go_enter Try.func44, Try.ntmps44
  go_wp2_with (go_at_call 85; refine (r1_Shift_up a b a0 a1 b0 b1 _).mono ?_; rintro e w' ⟨rfl, rfl⟩)
  go_ret3
  exact ⟨rfl, Keeps.refl _ _⟩
set_option maxHeartbeats 1000000 in
set_option maxRecDepth 100000 in
theorem made_23 (a b : Int) (a0 : 0 ≤ a) (a1 : a < 4294967296) (b0 : 0 ≤ b) (b1 : b < 4294967296) (w : World) :
    Calls Try.prog 44 #[.int .u8 23, .int .u32 a, .int .u32 b] w fun e w' => e = .returned (.tuple #[.int .u32 (sumL 23 a b).1, .int .u32 (sumL 23 a b).2, .bool true]) ∧ Same w w' := by
  go_enter Try.func44, Try.ntmps44
  go_wp2_with (go_at_call 85; refine (r1_Shift_down a b a0 a1 b0 b1 _).mono ?_; rintro e w' ⟨rfl, rfl⟩)
  go_ret3
  exact ⟨rfl, Keeps.refl _ _⟩
set_option maxHeartbeats 1000000 in
set_option maxRecDepth 100000 in
theorem made_24 (a b : Int) (a0 : 0 ≤ a) (a1 : a < 4294967296) (b0 : 0 ≤ b) (b1 : b < 4294967296) (w : World) :
    Calls Try.prog 44 #[.int .u8 24, .int .u32 a, .int .u32 b] w fun e w' => e = .returned (.tuple #[.int .u32 (sumL 24 a b).1, .int .u32 (sumL 24 a b).2, .bool true]) ∧ Same w w' := by
  go_enter Try.func44, Try.ntmps44
  go_wp2_with (go_at_call 86; refine (r1_Mul a b a0 a1 b0 b1 _).mono ?_; rintro e w' ⟨rfl, rfl⟩)
  go_ret3
  exact ⟨rfl, Keeps.refl _ _⟩
set_option maxHeartbeats 1000000 in
set_option maxRecDepth 100000 in
theorem made_26 (a b : Int) (a0 : 0 ≤ a) (a1 : a < 4294967296) (b0 : 0 ≤ b) (b1 : b < 4294967296) (w : World) :
    Calls Try.prog 44 #[.int .u8 26, .int .u32 a, .int .u32 b] w fun e w' => e = .returned (.tuple #[.int .u32 (sumL 26 a b).1, .int .u32 (sumL 26 a b).2, .bool true]) ∧ Same w w' := by
  go_enter Try.func44, Try.ntmps44
  go_wp2_with (go_at_call 80; refine (r1_Sub a b a0 a1 b0 b1 _).mono ?_; rintro e w' ⟨rfl, rfl⟩)
  go_ret3
  exact ⟨rfl, Keeps.refl _ _⟩
set_option maxHeartbeats 1000000 in
set_option maxRecDepth 100000 in
theorem made_27 (a b : Int) (a0 : 0 ≤ a) (a1 : a < 4294967296) (b0 : 0 ≤ b) (b1 : b < 4294967296) (w : World) :
    Calls Try.prog 44 #[.int .u8 27, .int .u32 a, .int .u32 b] w fun e w' => e = .returned (.tuple #[.int .u32 (sumL 27 a b).1, .int .u32 (sumL 27 a b).2, .bool true]) ∧ Same w w' := by
  go_enter Try.func44, Try.ntmps44
  go_wp2_with (go_at_call 82; refine (r1_Down_round a b a0 a1 b0 b1 _).mono ?_; rintro e w' ⟨rfl, rfl⟩)
  go_ret3
  exact ⟨rfl, Keeps.refl _ _⟩
set_option maxHeartbeats 1000000 in
set_option maxRecDepth 100000 in
theorem made_28 (a b : Int) (a0 : 0 ≤ a) (a1 : a < 4294967296) (b0 : 0 ≤ b) (b1 : b < 4294967296) (w : World) :
    Calls Try.prog 44 #[.int .u8 28, .int .u32 a, .int .u32 b] w fun e w' => e = .returned (.tuple #[.int .u32 (sumL 28 a b).1, .int .u32 (sumL 28 a b).2, .bool true]) ∧ Same w w' := by
  go_enter Try.func44, Try.ntmps44
  go_wp2_with (go_at_call 82; refine (r1_Down_sar a b a0 a1 b0 b1 _).mono ?_; rintro e w' ⟨rfl, rfl⟩)
  go_ret3
  exact ⟨rfl, Keeps.refl _ _⟩
set_option maxHeartbeats 1000000 in
set_option maxRecDepth 100000 in
theorem made_29 (a b : Int) (a0 : 0 ≤ a) (a1 : a < 4294967296) (b0 : 0 ≤ b) (b1 : b < 4294967296) (w : World) :
    Calls Try.prog 44 #[.int .u8 29, .int .u32 a, .int .u32 b] w fun e w' => e = .returned (.tuple #[.int .u32 (sumL 29 a b).1, .int .u32 (sumL 29 a b).2, .bool true]) ∧ Same w w' := by
  go_enter Try.func44, Try.ntmps44
  go_wp2_with (go_at_call 83; refine (r1_Mulh a b a0 a1 b0 b1 _).mono ?_; rintro e w' ⟨rfl, rfl⟩)
  go_ret3
  exact ⟨rfl, Keeps.refl _ _⟩
set_option maxHeartbeats 1000000 in
set_option maxRecDepth 100000 in
theorem made_31 (a b : Int) (a0 : 0 ≤ a) (a1 : a < 4294967296) (b0 : 0 ≤ b) (b1 : b < 4294967296) (w : World) :
    Calls Try.prog 44 #[.int .u8 31, .int .u32 a, .int .u32 b] w fun e w' => e = .returned (.tuple #[.int .u32 (sumL 31 a b).1, .int .u32 (sumL 31 a b).2, .bool true]) ∧ Same w w' := by
  go_enter Try.func44, Try.ntmps44
  go_wp2_with (go_at_call 81; refine (r1_Logic0 a b a0 a1 b0 b1 _).mono ?_; rintro e w' ⟨rfl, rfl⟩)
  go_ret3
  exact ⟨rfl, Keeps.refl _ _⟩
set_option maxHeartbeats 1000000 in
set_option maxRecDepth 100000 in
theorem made_25_0 (a : Int) (w : World) :
    Calls Try.prog 44 #[.int .u8 25, .int .u32 a, .int .u32 0] w fun e w' => e = .returned (.tuple #[.int .u32 0, .int .u32 0, .bool false]) ∧ Same w w' := by
  go_enter Try.func44, Try.ntmps44
  go_wp2_with (go_at_call 87; refine (r1_Div0 a _).mono ?_; rintro e w' ⟨rfl, rfl⟩)
  go_ret3
  exact ⟨rfl, Keeps.refl _ _⟩
set_option maxHeartbeats 1000000 in
set_option maxRecDepth 100000 in
theorem made_25 (a b : Int) (a0 : 0 ≤ a) (a1 : a < 4294967296) (b0 : 0 < b) (b1 : b < 4294967296) (w : World) :
    Calls Try.prog 44 #[.int .u8 25, .int .u32 a, .int .u32 b] w fun e w' => e = .returned (.tuple #[.int .u32 (a / b), .int .u32 (zn (a / b)), .bool true]) ∧ Same w w' := by
  go_enter Try.func44, Try.ntmps44
  go_wp2_with (go_at_call 87; refine (r1_Div a b a0 a1 b0 b1 _).mono ?_; rintro e w' ⟨rfl, hk⟩)
  go_ret3
  exact ⟨rfl, hk⟩
set_option maxHeartbeats 1000000 in
set_option maxRecDepth 100000 in
theorem made_30_0 (a : Int) (w : World) :
    Calls Try.prog 44 #[.int .u8 30, .int .u32 a, .int .u32 0] w fun e w' => e = .returned (.tuple #[.int .u32 0, .int .u32 0, .bool false]) ∧ Same w w' := by
  go_enter Try.func44, Try.ntmps44
  go_wp2_with (go_at_call 84; refine (r1_Rem0 a _).mono ?_; rintro e w' ⟨rfl, rfl⟩)
  go_ret3
  exact ⟨rfl, Keeps.refl _ _⟩
set_option maxHeartbeats 1000000 in
set_option maxRecDepth 100000 in
theorem made_30 (a b : Int) (a0 : 0 ≤ a) (a1 : a < 4294967296) (b0 : 0 < b) (b1 : b < 4294967296) (w : World) :
    Calls Try.prog 44 #[.int .u8 30, .int .u32 a, .int .u32 b] w fun e w' => e = .returned (.tuple #[.int .u32 (a % b), .int .u32 (zn (a % b)), .bool true]) ∧ Same w w' := by
  go_enter Try.func44, Try.ntmps44
  go_wp2_with (go_at_call 84; refine (r1_Rem a b a0 a1 b0 b1 _).mono ?_; rintro e w' ⟨rfl, rfl⟩)
  go_ret3
  exact ⟨rfl, Keeps.refl _ _⟩
theorem made_sum (op a b : Int) (h : isSum op = true) (h33 : op ≠ 33) (a0 : 0 ≤ a) (a1 : a < 4294967296) (b0 : 0 ≤ b) (b1 : b < 4294967296) (w : World) :
    Calls Try.prog 44 #[.int .u8 op, .int .u32 a, .int .u32 b] w fun e w' => e = .returned (.tuple #[.int .u32 (sumL op a b).1, .int .u32 (sumL op a b).2, .bool true]) ∧ Same w w' := by
  rcases sum_ways op h with rfl | rfl | rfl | rfl | rfl | rfl | rfl | rfl | rfl | rfl | rfl | rfl | rfl | rfl
  · exact made_17 a b a0 a1 b0 b1 w
  · exact made_18 a b a0 a1 b0 b1 w
  · exact made_19 a b a0 a1 b0 b1 w
  · exact made_20 a b a0 a1 b0 b1 w
  · exact made_21 a b a0 a1 b0 b1 w
  · exact made_22 a b a0 a1 b0 b1 w
  · exact made_23 a b a0 a1 b0 b1 w
  · exact made_24 a b a0 a1 b0 b1 w
  · exact made_26 a b a0 a1 b0 b1 w
  · exact made_27 a b a0 a1 b0 b1 w
  · exact made_28 a b a0 a1 b0 b1 w
  · exact made_29 a b a0 a1 b0 b1 w
  · exact made_31 a b a0 a1 b0 b1 w
  · exact absurd rfl h33
set_option maxHeartbeats 1000000 in
theorem flagged_any (p f : Int) (p0 : 0 ≤ p) (p1 : p < 4294967296) (hf : 0 ≤ f ∧ f < 256 ∧ f % 16 = 0) (w : World) :
    Calls Try.prog 45 #[.int .u32 p, .int .u32 f] w fun e w' => e = .returned (.int .u32 (bits .or .u32 (bits .andNot .u32 p 240) f)) ∧ w' = w := by
  obtain ⟨f0, f1, f2⟩ := hf
  rw [turn_ps p f p0 p1 f0 f1 f2]
  have k0 : 0 ≤ p / 16 % 16 * 16 := by omega
  have k1 : p / 16 % 16 * 16 ≤ p := by omega
  have k2 : p - p / 16 % 16 * 16 + f < 4294967296 := by omega
  have k3 : p / 16 % 16 < 16 := by omega
  go_enter Try.func45, Try.ntmps45
  go_wp2
  go_ret
  exact ⟨rfl, rfl⟩
theorem sgn_low1 (v : Int) (_v0 : 0 ≤ v) (h : 128 ≤ v % 256) : (v % 256 - 256) % 4294967296 = sgnL v 1 := by unfold sgnL; rw [if_pos rfl, if_neg (by omega)]; omega
theorem sgn_low1' (v : Int) (h : v % 256 < 128) : v % 256 = sgnL v 1 := by unfold sgnL; rw [if_pos rfl, if_pos h]
theorem sgn_low2 (v : Int) (_v0 : 0 ≤ v) (h : 32768 ≤ v % 65536) : (v % 65536 - 65536) % 4294967296 = sgnL v 2 := by unfold sgnL; rw [if_neg (show ¬ (2 : Int) = 1 by omega), if_neg (by omega)]; omega
theorem sgn_low2' (v : Int) (h : v % 65536 < 32768) : v % 65536 = sgnL v 2 := by unfold sgnL; rw [if_neg (show ¬ (2 : Int) = 1 by omega), if_pos h]
set_option maxHeartbeats 2000000 in
set_option maxRecDepth 100000 in
theorem rmoved_48 (s : St) (a b imm v : Int) (hs : s.Ok) (a0 : 0 ≤ a) (a1 : a < 8) (_v0 : 0 ≤ v) (_v1 : v < 4294967296) (w : World) :
    Calls Try.prog 47 #[.agg (stA s), .agg #[.int .u8 48, .int .u8 a, .int .u8 b, .int .i32 imm], .int .u32 v] w fun e w' => e = .returned (.agg (stA (movedL s ⟨48, a, b, imm⟩ v))) ∧ Same w w' := by
  have q0 := hs.r0 7
  have q1 := hs.r1 7
  have h8 : a.toNat < 8 := by omega
  have m0 : 0 ≤ v % 256 := by omega
  have m1 : 0 ≤ v % 65536 := by omega
  clear hs
  go_enter Try.func47, Try.ntmps47
  go_wp2
  refine wp_region_rc [0, 1, 2, 3, 4, 5, 6] [7] 0 (Same _) (by kernel_rfl) (by kernel_rfl) (fun u u' h k => Keeps.trans h k) (Keeps.refl _ _).drew ?_
  simp only [opsOf, List.filterMap_cons, List.filterMap_nil, List.getElem?_cons_zero, List.getElem?_cons_succ]
  repeat (refine seqV_run (v := ?_) rfl (fun u hu => ?_) ?_; rotate_left; (focus (obtain ⟨hc, hf, hr, hl, hn, hm⟩ := same_facts hu; clear hu; go_simp; first | done | with_reducible rfl)); (try simp only [Act.put, List.setIfInBounds_toArray, List.set_cons_zero, List.set_cons_succ]))
  refine seqV_call (f := 38) (args := #[.int .u32 v, .int .i64 4]) (v := .int .u32 v) rfl (fun u hu => ?_) (fun u _ => ?_) ?_
  · go_simp
  · go_enter Try.func38, Try.ntmps38
    go_wp2
    go_ret
    exact ⟨rfl, Keeps.refl _ _⟩
  simp only [Act.put, List.setIfInBounds_toArray, List.set_cons_zero, List.set_cons_succ]
  repeat (refine seqV_run (v := ?_) rfl (fun u hu => ?_) ?_; rotate_left; (focus (obtain ⟨hc, hf, hr, hl, hn, hm⟩ := same_facts hu; clear hu; go_simp; first | done | with_reducible rfl)); (try simp only [Act.put, List.setIfInBounds_toArray, List.set_cons_zero, List.set_cons_succ]))
  refine seqV_nil ?_
  refine tailR_zero fun u1 hu _ => ?_
  (obtain ⟨hc1, hf1, hr1, -, -, -⟩ := same_facts hu); have lt_u1_0 : w.heap.size < u1.heap.size := (by have hh := (hu).size; (try simp at hh); omega); have lt_u1_1 : w.heap.size + 1 < u1.heap.size := (by have hh := (hu).size; (try simp at hh); omega); have lt_u1_2 : w.heap.size + 1 + 1 < u1.heap.size := (by have hh := (hu).size; (try simp at hh); omega); have lt1_u1_0 : w.heap.size < u1.heap.size + 1 := (by omega); have lt2_u1_0 : w.heap.size < u1.heap.size + 1 + 1 := (by omega); have lt1_u1_1 : w.heap.size + 1 < u1.heap.size + 1 := (by omega); have lt2_u1_1 : w.heap.size + 1 < u1.heap.size + 1 + 1 := (by omega); have lt1_u1_2 : w.heap.size + 1 + 1 < u1.heap.size + 1 := (by omega); have lt2_u1_2 : w.heap.size + 1 + 1 < u1.heap.size + 1 + 1 := (by omega); have rw_u1_0 := (hr1 (w.heap.size) (by (try simp); (try omega))).trans (show rowAt _ (w.heap.size) = _ by go_simp; rfl); have rw_u1_1 := (hr1 (w.heap.size + 1) (by (try simp); (try omega))).trans (show rowAt _ (w.heap.size + 1) = _ by go_simp; rfl); have rw_u1_2 := (hr1 (w.heap.size + 1 + 1) (by (try simp); (try omega))).trans (show rowAt _ (w.heap.size + 1 + 1) = _ by go_simp; rfl); have HK1 := hidE hu; clear hu
  go_wp2
  refine post_row rfl Try.underlying25 rfl infoS rfl rfl (by go_simp; rfl) (sa_size _) ⟨?_, ?_⟩
  · simp [movedL]
  · (repeat (first | with_reducible exact Keeps.refl _ _ | (with_reducible refine Keeps.drew ?_) | (with_reducible refine Keeps.alloc ?_ _) | (with_reducible refine Keeps.setRow ?_ (fun h => absurd h (by omega)) _) | (with_reducible refine Keeps.setCell ?_ (fun h => absurd h (by simp only []; omega)) _) | (with_reducible refine Keeps.trans ?_ HK8.out) | (with_reducible refine same_then ?_ HK8.out (fun k hk => by omega)) | (with_reducible refine Keeps.trans ?_ HK7.out) | (with_reducible refine same_then ?_ HK7.out (fun k hk => by omega)) | (with_reducible refine Keeps.trans ?_ HK6.out) | (with_reducible refine same_then ?_ HK6.out (fun k hk => by omega)) | (with_reducible refine Keeps.trans ?_ HK5.out) | (with_reducible refine same_then ?_ HK5.out (fun k hk => by omega)) | (with_reducible refine Keeps.trans ?_ HK4.out) | (with_reducible refine same_then ?_ HK4.out (fun k hk => by omega)) | (with_reducible refine Keeps.trans ?_ HK3.out) | (with_reducible refine same_then ?_ HK3.out (fun k hk => by omega)) | (with_reducible refine Keeps.trans ?_ HK2.out) | (with_reducible refine same_then ?_ HK2.out (fun k hk => by omega)) | (with_reducible refine Keeps.trans ?_ HK1.out) | (with_reducible refine same_then ?_ HK1.out (fun k hk => by omega))))
set_option maxHeartbeats 2000000 in
set_option maxRecDepth 100000 in
theorem rmoved_49 (s : St) (a b imm v : Int) (hs : s.Ok) (a0 : 0 ≤ a) (a1 : a < 8) (_v0 : 0 ≤ v) (_v1 : v < 4294967296) (w : World) :
    Calls Try.prog 47 #[.agg (stA s), .agg #[.int .u8 49, .int .u8 a, .int .u8 b, .int .i32 imm], .int .u32 v] w fun e w' => e = .returned (.agg (stA (movedL s ⟨49, a, b, imm⟩ v))) ∧ Same w w' := by
  have q0 := hs.r0 7
  have q1 := hs.r1 7
  have h8 : a.toNat < 8 := by omega
  have m0 : 0 ≤ v % 256 := by omega
  have m1 : 0 ≤ v % 65536 := by omega
  clear hs
  go_enter Try.func47, Try.ntmps47
  go_wp2
  refine post_row rfl Try.underlying25 rfl infoS rfl rfl (by go_simp; rfl) (sa_size _) ⟨?_, ?_⟩
  · simp [movedL]
  · (repeat (first | with_reducible exact Keeps.refl _ _ | (with_reducible refine Keeps.drew ?_) | (with_reducible refine Keeps.alloc ?_ _) | (with_reducible refine Keeps.setRow ?_ (fun h => absurd h (by omega)) _) | (with_reducible refine Keeps.setCell ?_ (fun h => absurd h (by simp only []; omega)) _) | (with_reducible refine Keeps.trans ?_ HK8.out) | (with_reducible refine same_then ?_ HK8.out (fun k hk => by omega)) | (with_reducible refine Keeps.trans ?_ HK7.out) | (with_reducible refine same_then ?_ HK7.out (fun k hk => by omega)) | (with_reducible refine Keeps.trans ?_ HK6.out) | (with_reducible refine same_then ?_ HK6.out (fun k hk => by omega)) | (with_reducible refine Keeps.trans ?_ HK5.out) | (with_reducible refine same_then ?_ HK5.out (fun k hk => by omega)) | (with_reducible refine Keeps.trans ?_ HK4.out) | (with_reducible refine same_then ?_ HK4.out (fun k hk => by omega)) | (with_reducible refine Keeps.trans ?_ HK3.out) | (with_reducible refine same_then ?_ HK3.out (fun k hk => by omega)) | (with_reducible refine Keeps.trans ?_ HK2.out) | (with_reducible refine same_then ?_ HK2.out (fun k hk => by omega)) | (with_reducible refine Keeps.trans ?_ HK1.out) | (with_reducible refine same_then ?_ HK1.out (fun k hk => by omega))))
set_option maxHeartbeats 2000000 in
set_option maxRecDepth 100000 in
theorem rmoved_50 (s : St) (a b imm v : Int) (hs : s.Ok) (a0 : 0 ≤ a) (a1 : a < 8) (v0 : 0 ≤ v) (v1 : v < 4294967296) (w : World) :
    Calls Try.prog 47 #[.agg (stA s), .agg #[.int .u8 50, .int .u8 a, .int .u8 b, .int .i32 imm], .int .u32 v] w fun e w' => e = .returned (.agg (stA (movedL s ⟨50, a, b, imm⟩ v))) ∧ Same w w' := by
  have q0 := hs.r0 7
  have q1 := hs.r1 7
  have h8 : a.toNat < 8 := by omega
  have m0 : 0 ≤ v % 256 := by omega
  have m1 : 0 ≤ v % 65536 := by omega
  clear hs
  go_enter Try.func47, Try.ntmps47
  go_wp2
  refine wp_region_rc [0, 1, 2, 3, 4, 5, 6] [7] 0 (Same _) (by kernel_rfl) (by kernel_rfl) (fun u u' h k => Keeps.trans h k) (Keeps.refl _ _).drew ?_
  simp only [opsOf, List.filterMap_cons, List.filterMap_nil, List.getElem?_cons_zero, List.getElem?_cons_succ]
  repeat (refine seqV_run (v := ?_) rfl (fun u hu => ?_) ?_; rotate_left; (focus (obtain ⟨hc, hf, hr, hl, hn, hm⟩ := same_facts hu; clear hu; go_simp; first | done | with_reducible rfl)); (try simp only [Act.put, List.setIfInBounds_toArray, List.set_cons_zero, List.set_cons_succ]))
  refine seqV_call (f := 38) (args := #[.int .u32 v, .int .i64 1]) (v := .int .u32 (v % 256)) rfl (fun u hu => ?_) (fun u _ => ?_) ?_
  · go_simp
  · go_enter Try.func38, Try.ntmps38
    go_wp2
    go_ret
    exact ⟨rfl, Keeps.refl _ _⟩
  simp only [Act.put, List.setIfInBounds_toArray, List.set_cons_zero, List.set_cons_succ]
  repeat (refine seqV_run (v := ?_) rfl (fun u hu => ?_) ?_; rotate_left; (focus (obtain ⟨hc, hf, hr, hl, hn, hm⟩ := same_facts hu; clear hu; go_simp; first | done | with_reducible rfl)); (try simp only [Act.put, List.setIfInBounds_toArray, List.set_cons_zero, List.set_cons_succ]))
  refine seqV_nil ?_
  refine tailR_zero fun u1 hu _ => ?_
  (obtain ⟨hc1, hf1, hr1, -, -, -⟩ := same_facts hu); have lt_u1_0 : w.heap.size < u1.heap.size := (by have hh := (hu).size; (try simp at hh); omega); have lt_u1_1 : w.heap.size + 1 < u1.heap.size := (by have hh := (hu).size; (try simp at hh); omega); have lt_u1_2 : w.heap.size + 1 + 1 < u1.heap.size := (by have hh := (hu).size; (try simp at hh); omega); have lt1_u1_0 : w.heap.size < u1.heap.size + 1 := (by omega); have lt2_u1_0 : w.heap.size < u1.heap.size + 1 + 1 := (by omega); have lt1_u1_1 : w.heap.size + 1 < u1.heap.size + 1 := (by omega); have lt2_u1_1 : w.heap.size + 1 < u1.heap.size + 1 + 1 := (by omega); have lt1_u1_2 : w.heap.size + 1 + 1 < u1.heap.size + 1 := (by omega); have lt2_u1_2 : w.heap.size + 1 + 1 < u1.heap.size + 1 + 1 := (by omega); have rw_u1_0 := (hr1 (w.heap.size) (by (try simp); (try omega))).trans (show rowAt _ (w.heap.size) = _ by go_simp; rfl); have rw_u1_1 := (hr1 (w.heap.size + 1) (by (try simp); (try omega))).trans (show rowAt _ (w.heap.size + 1) = _ by go_simp; rfl); have rw_u1_2 := (hr1 (w.heap.size + 1 + 1) (by (try simp); (try omega))).trans (show rowAt _ (w.heap.size + 1 + 1) = _ by go_simp; rfl); have HK1 := hidE hu; clear hu
  go_wp2
  refine post_row rfl Try.underlying25 rfl infoS rfl rfl (by go_simp; rfl) (sa_size _) ⟨?_, ?_⟩
  · simp [movedL]
  · (repeat (first | with_reducible exact Keeps.refl _ _ | (with_reducible refine Keeps.drew ?_) | (with_reducible refine Keeps.alloc ?_ _) | (with_reducible refine Keeps.setRow ?_ (fun h => absurd h (by omega)) _) | (with_reducible refine Keeps.setCell ?_ (fun h => absurd h (by simp only []; omega)) _) | (with_reducible refine Keeps.trans ?_ HK8.out) | (with_reducible refine same_then ?_ HK8.out (fun k hk => by omega)) | (with_reducible refine Keeps.trans ?_ HK7.out) | (with_reducible refine same_then ?_ HK7.out (fun k hk => by omega)) | (with_reducible refine Keeps.trans ?_ HK6.out) | (with_reducible refine same_then ?_ HK6.out (fun k hk => by omega)) | (with_reducible refine Keeps.trans ?_ HK5.out) | (with_reducible refine same_then ?_ HK5.out (fun k hk => by omega)) | (with_reducible refine Keeps.trans ?_ HK4.out) | (with_reducible refine same_then ?_ HK4.out (fun k hk => by omega)) | (with_reducible refine Keeps.trans ?_ HK3.out) | (with_reducible refine same_then ?_ HK3.out (fun k hk => by omega)) | (with_reducible refine Keeps.trans ?_ HK2.out) | (with_reducible refine same_then ?_ HK2.out (fun k hk => by omega)) | (with_reducible refine Keeps.trans ?_ HK1.out) | (with_reducible refine same_then ?_ HK1.out (fun k hk => by omega))))
set_option maxHeartbeats 2000000 in
set_option maxRecDepth 100000 in
theorem rmoved_51 (s : St) (a b imm v : Int) (hs : s.Ok) (a0 : 0 ≤ a) (a1 : a < 8) (_v0 : 0 ≤ v) (_v1 : v < 4294967296) (w : World) :
    Calls Try.prog 47 #[.agg (stA s), .agg #[.int .u8 51, .int .u8 a, .int .u8 b, .int .i32 imm], .int .u32 v] w fun e w' => e = .returned (.agg (stA (movedL s ⟨51, a, b, imm⟩ v))) ∧ Same w w' := by
  have q0 := hs.r0 7
  have q1 := hs.r1 7
  have h8 : a.toNat < 8 := by omega
  have m0 : 0 ≤ v % 256 := by omega
  have m1 : 0 ≤ v % 65536 := by omega
  clear hs
  go_enter Try.func47, Try.ntmps47
  go_wp2
  refine post_row rfl Try.underlying25 rfl infoS rfl rfl (by go_simp; rfl) (sa_size _) ⟨?_, ?_⟩
  · simp [movedL]
  · (repeat (first | with_reducible exact Keeps.refl _ _ | (with_reducible refine Keeps.drew ?_) | (with_reducible refine Keeps.alloc ?_ _) | (with_reducible refine Keeps.setRow ?_ (fun h => absurd h (by omega)) _) | (with_reducible refine Keeps.setCell ?_ (fun h => absurd h (by simp only []; omega)) _) | (with_reducible refine Keeps.trans ?_ HK8.out) | (with_reducible refine same_then ?_ HK8.out (fun k hk => by omega)) | (with_reducible refine Keeps.trans ?_ HK7.out) | (with_reducible refine same_then ?_ HK7.out (fun k hk => by omega)) | (with_reducible refine Keeps.trans ?_ HK6.out) | (with_reducible refine same_then ?_ HK6.out (fun k hk => by omega)) | (with_reducible refine Keeps.trans ?_ HK5.out) | (with_reducible refine same_then ?_ HK5.out (fun k hk => by omega)) | (with_reducible refine Keeps.trans ?_ HK4.out) | (with_reducible refine same_then ?_ HK4.out (fun k hk => by omega)) | (with_reducible refine Keeps.trans ?_ HK3.out) | (with_reducible refine same_then ?_ HK3.out (fun k hk => by omega)) | (with_reducible refine Keeps.trans ?_ HK2.out) | (with_reducible refine same_then ?_ HK2.out (fun k hk => by omega)) | (with_reducible refine Keeps.trans ?_ HK1.out) | (with_reducible refine same_then ?_ HK1.out (fun k hk => by omega))))
set_option maxHeartbeats 2000000 in
set_option maxRecDepth 100000 in
theorem rmoved_52 (s : St) (a b imm v : Int) (hs : s.Ok) (a0 : 0 ≤ a) (a1 : a < 8) (v0 : 0 ≤ v) (v1 : v < 4294967296) (w : World) :
    Calls Try.prog 47 #[.agg (stA s), .agg #[.int .u8 52, .int .u8 a, .int .u8 b, .int .i32 imm], .int .u32 v] w fun e w' => e = .returned (.agg (stA (movedL s ⟨52, a, b, imm⟩ v))) ∧ Same w w' := by
  have q0 := hs.r0 7
  have q1 := hs.r1 7
  have h8 : a.toNat < 8 := by omega
  have m0 : 0 ≤ v % 256 := by omega
  have m1 : 0 ≤ v % 65536 := by omega
  clear hs
  go_enter Try.func47, Try.ntmps47
  go_wp2
  refine wp_region_rc [0, 1, 2, 3, 4, 5, 6] [7] 0 (Same _) (by kernel_rfl) (by kernel_rfl) (fun u u' h k => Keeps.trans h k) (Keeps.refl _ _).drew ?_
  simp only [opsOf, List.filterMap_cons, List.filterMap_nil, List.getElem?_cons_zero, List.getElem?_cons_succ]
  repeat (refine seqV_run (v := ?_) rfl (fun u hu => ?_) ?_; rotate_left; (focus (obtain ⟨hc, hf, hr, hl, hn, hm⟩ := same_facts hu; clear hu; go_simp; first | done | with_reducible rfl)); (try simp only [Act.put, List.setIfInBounds_toArray, List.set_cons_zero, List.set_cons_succ]))
  refine seqV_call (f := 38) (args := #[.int .u32 v, .int .i64 2]) (v := .int .u32 (v % 65536)) rfl (fun u hu => ?_) (fun u _ => ?_) ?_
  · go_simp
  · go_enter Try.func38, Try.ntmps38
    go_wp2
    go_ret
    exact ⟨rfl, Keeps.refl _ _⟩
  simp only [Act.put, List.setIfInBounds_toArray, List.set_cons_zero, List.set_cons_succ]
  repeat (refine seqV_run (v := ?_) rfl (fun u hu => ?_) ?_; rotate_left; (focus (obtain ⟨hc, hf, hr, hl, hn, hm⟩ := same_facts hu; clear hu; go_simp; first | done | with_reducible rfl)); (try simp only [Act.put, List.setIfInBounds_toArray, List.set_cons_zero, List.set_cons_succ]))
  refine seqV_nil ?_
  refine tailR_zero fun u1 hu _ => ?_
  (obtain ⟨hc1, hf1, hr1, -, -, -⟩ := same_facts hu); have lt_u1_0 : w.heap.size < u1.heap.size := (by have hh := (hu).size; (try simp at hh); omega); have lt_u1_1 : w.heap.size + 1 < u1.heap.size := (by have hh := (hu).size; (try simp at hh); omega); have lt_u1_2 : w.heap.size + 1 + 1 < u1.heap.size := (by have hh := (hu).size; (try simp at hh); omega); have lt1_u1_0 : w.heap.size < u1.heap.size + 1 := (by omega); have lt2_u1_0 : w.heap.size < u1.heap.size + 1 + 1 := (by omega); have lt1_u1_1 : w.heap.size + 1 < u1.heap.size + 1 := (by omega); have lt2_u1_1 : w.heap.size + 1 < u1.heap.size + 1 + 1 := (by omega); have lt1_u1_2 : w.heap.size + 1 + 1 < u1.heap.size + 1 := (by omega); have lt2_u1_2 : w.heap.size + 1 + 1 < u1.heap.size + 1 + 1 := (by omega); have rw_u1_0 := (hr1 (w.heap.size) (by (try simp); (try omega))).trans (show rowAt _ (w.heap.size) = _ by go_simp; rfl); have rw_u1_1 := (hr1 (w.heap.size + 1) (by (try simp); (try omega))).trans (show rowAt _ (w.heap.size + 1) = _ by go_simp; rfl); have rw_u1_2 := (hr1 (w.heap.size + 1 + 1) (by (try simp); (try omega))).trans (show rowAt _ (w.heap.size + 1 + 1) = _ by go_simp; rfl); have HK1 := hidE hu; clear hu
  go_wp2
  refine post_row rfl Try.underlying25 rfl infoS rfl rfl (by go_simp; rfl) (sa_size _) ⟨?_, ?_⟩
  · simp [movedL]
  · (repeat (first | with_reducible exact Keeps.refl _ _ | (with_reducible refine Keeps.drew ?_) | (with_reducible refine Keeps.alloc ?_ _) | (with_reducible refine Keeps.setRow ?_ (fun h => absurd h (by omega)) _) | (with_reducible refine Keeps.setCell ?_ (fun h => absurd h (by simp only []; omega)) _) | (with_reducible refine Keeps.trans ?_ HK8.out) | (with_reducible refine same_then ?_ HK8.out (fun k hk => by omega)) | (with_reducible refine Keeps.trans ?_ HK7.out) | (with_reducible refine same_then ?_ HK7.out (fun k hk => by omega)) | (with_reducible refine Keeps.trans ?_ HK6.out) | (with_reducible refine same_then ?_ HK6.out (fun k hk => by omega)) | (with_reducible refine Keeps.trans ?_ HK5.out) | (with_reducible refine same_then ?_ HK5.out (fun k hk => by omega)) | (with_reducible refine Keeps.trans ?_ HK4.out) | (with_reducible refine same_then ?_ HK4.out (fun k hk => by omega)) | (with_reducible refine Keeps.trans ?_ HK3.out) | (with_reducible refine same_then ?_ HK3.out (fun k hk => by omega)) | (with_reducible refine Keeps.trans ?_ HK2.out) | (with_reducible refine same_then ?_ HK2.out (fun k hk => by omega)) | (with_reducible refine Keeps.trans ?_ HK1.out) | (with_reducible refine same_then ?_ HK1.out (fun k hk => by omega))))
set_option maxHeartbeats 2000000 in
set_option maxRecDepth 100000 in
theorem rmoved_53 (s : St) (a b imm v : Int) (hs : s.Ok) (a0 : 0 ≤ a) (a1 : a < 8) (_v0 : 0 ≤ v) (_v1 : v < 4294967296) (w : World) :
    Calls Try.prog 47 #[.agg (stA s), .agg #[.int .u8 53, .int .u8 a, .int .u8 b, .int .i32 imm], .int .u32 v] w fun e w' => e = .returned (.agg (stA (movedL s ⟨53, a, b, imm⟩ v))) ∧ Same w w' := by
  have q0 := hs.r0 7
  have q1 := hs.r1 7
  have h8 : a.toNat < 8 := by omega
  have m0 : 0 ≤ v % 256 := by omega
  have m1 : 0 ≤ v % 65536 := by omega
  clear hs
  go_enter Try.func47, Try.ntmps47
  go_wp2
  refine post_row rfl Try.underlying25 rfl infoS rfl rfl (by go_simp; rfl) (sa_size _) ⟨?_, ?_⟩
  · simp [movedL]
  · (repeat (first | with_reducible exact Keeps.refl _ _ | (with_reducible refine Keeps.drew ?_) | (with_reducible refine Keeps.alloc ?_ _) | (with_reducible refine Keeps.setRow ?_ (fun h => absurd h (by omega)) _) | (with_reducible refine Keeps.setCell ?_ (fun h => absurd h (by simp only []; omega)) _) | (with_reducible refine Keeps.trans ?_ HK8.out) | (with_reducible refine same_then ?_ HK8.out (fun k hk => by omega)) | (with_reducible refine Keeps.trans ?_ HK7.out) | (with_reducible refine same_then ?_ HK7.out (fun k hk => by omega)) | (with_reducible refine Keeps.trans ?_ HK6.out) | (with_reducible refine same_then ?_ HK6.out (fun k hk => by omega)) | (with_reducible refine Keeps.trans ?_ HK5.out) | (with_reducible refine same_then ?_ HK5.out (fun k hk => by omega)) | (with_reducible refine Keeps.trans ?_ HK4.out) | (with_reducible refine same_then ?_ HK4.out (fun k hk => by omega)) | (with_reducible refine Keeps.trans ?_ HK3.out) | (with_reducible refine same_then ?_ HK3.out (fun k hk => by omega)) | (with_reducible refine Keeps.trans ?_ HK2.out) | (with_reducible refine same_then ?_ HK2.out (fun k hk => by omega)) | (with_reducible refine Keeps.trans ?_ HK1.out) | (with_reducible refine same_then ?_ HK1.out (fun k hk => by omega))))
set_option maxHeartbeats 2000000 in
set_option maxRecDepth 100000 in
theorem rmoved_54h (s : St) (a b imm v : Int) (hs : s.Ok) (a0 : 0 ≤ a) (a1 : a < 8) (v0 : 0 ≤ v) (v1 : v < 4294967296) (h : 128 ≤ v % 256) (w : World) :
    Calls Try.prog 47 #[.agg (stA s), .agg #[.int .u8 54, .int .u8 a, .int .u8 b, .int .i32 imm], .int .u32 v] w fun e w' => e = .returned (.agg (stA (movedL s ⟨54, a, b, imm⟩ v))) ∧ Same w w' := by
  have q0 := hs.r0 7
  have q1 := hs.r1 7
  have h8 : a.toNat < 8 := by omega
  have m0 : 0 ≤ v % 256 := by omega
  have m1 : 0 ≤ v % 65536 := by omega
  clear hs
  go_enter Try.func47, Try.ntmps47
  go_wp2
  refine wp_region_rc [0, 1, 2, 3, 4, 5, 6] [7] 0 (Same _) (by kernel_rfl) (by kernel_rfl) (fun u u' h k => Keeps.trans h k) (Keeps.refl _ _).drew ?_
  simp only [opsOf, List.filterMap_cons, List.filterMap_nil, List.getElem?_cons_zero, List.getElem?_cons_succ]
  repeat (refine seqV_run (v := ?_) rfl (fun u hu => ?_) ?_; rotate_left; (focus (obtain ⟨hc, hf, hr, hl, hn, hm⟩ := same_facts hu; clear hu; go_simp; first | done | with_reducible rfl)); (try simp only [Act.put, List.setIfInBounds_toArray, List.set_cons_zero, List.set_cons_succ]))
  refine seqV_call (f := 90) (args := #[.int .u32 v, .int .i64 1]) (v := .int .u32 (sgnL v 1)) rfl (fun u hu => ?_) (fun u _ => ?_) ?_
  · go_simp
  · go_enter Try.func90, Try.ntmps90
    go_wp2
    go_ret
    exact ⟨by rw [← sgn_low1 v v0 h]; rfl, Keeps.refl _ _⟩
  simp only [Act.put, List.setIfInBounds_toArray, List.set_cons_zero, List.set_cons_succ]
  repeat (refine seqV_run (v := ?_) rfl (fun u hu => ?_) ?_; rotate_left; (focus (obtain ⟨hc, hf, hr, hl, hn, hm⟩ := same_facts hu; clear hu; go_simp; first | done | with_reducible rfl)); (try simp only [Act.put, List.setIfInBounds_toArray, List.set_cons_zero, List.set_cons_succ]))
  refine seqV_nil ?_
  refine tailR_zero fun u1 hu _ => ?_
  (obtain ⟨hc1, hf1, hr1, -, -, -⟩ := same_facts hu); have lt_u1_0 : w.heap.size < u1.heap.size := (by have hh := (hu).size; (try simp at hh); omega); have lt_u1_1 : w.heap.size + 1 < u1.heap.size := (by have hh := (hu).size; (try simp at hh); omega); have lt_u1_2 : w.heap.size + 1 + 1 < u1.heap.size := (by have hh := (hu).size; (try simp at hh); omega); have lt1_u1_0 : w.heap.size < u1.heap.size + 1 := (by omega); have lt2_u1_0 : w.heap.size < u1.heap.size + 1 + 1 := (by omega); have lt1_u1_1 : w.heap.size + 1 < u1.heap.size + 1 := (by omega); have lt2_u1_1 : w.heap.size + 1 < u1.heap.size + 1 + 1 := (by omega); have lt1_u1_2 : w.heap.size + 1 + 1 < u1.heap.size + 1 := (by omega); have lt2_u1_2 : w.heap.size + 1 + 1 < u1.heap.size + 1 + 1 := (by omega); have rw_u1_0 := (hr1 (w.heap.size) (by (try simp); (try omega))).trans (show rowAt _ (w.heap.size) = _ by go_simp; rfl); have rw_u1_1 := (hr1 (w.heap.size + 1) (by (try simp); (try omega))).trans (show rowAt _ (w.heap.size + 1) = _ by go_simp; rfl); have rw_u1_2 := (hr1 (w.heap.size + 1 + 1) (by (try simp); (try omega))).trans (show rowAt _ (w.heap.size + 1 + 1) = _ by go_simp; rfl); have HK1 := hidE hu; clear hu
  go_wp2
  refine post_row rfl Try.underlying25 rfl infoS rfl rfl (by go_simp; rfl) (sa_size _) ⟨?_, ?_⟩
  · simp [movedL]
  · (repeat (first | with_reducible exact Keeps.refl _ _ | (with_reducible refine Keeps.drew ?_) | (with_reducible refine Keeps.alloc ?_ _) | (with_reducible refine Keeps.setRow ?_ (fun h => absurd h (by omega)) _) | (with_reducible refine Keeps.setCell ?_ (fun h => absurd h (by simp only []; omega)) _) | (with_reducible refine Keeps.trans ?_ HK8.out) | (with_reducible refine same_then ?_ HK8.out (fun k hk => by omega)) | (with_reducible refine Keeps.trans ?_ HK7.out) | (with_reducible refine same_then ?_ HK7.out (fun k hk => by omega)) | (with_reducible refine Keeps.trans ?_ HK6.out) | (with_reducible refine same_then ?_ HK6.out (fun k hk => by omega)) | (with_reducible refine Keeps.trans ?_ HK5.out) | (with_reducible refine same_then ?_ HK5.out (fun k hk => by omega)) | (with_reducible refine Keeps.trans ?_ HK4.out) | (with_reducible refine same_then ?_ HK4.out (fun k hk => by omega)) | (with_reducible refine Keeps.trans ?_ HK3.out) | (with_reducible refine same_then ?_ HK3.out (fun k hk => by omega)) | (with_reducible refine Keeps.trans ?_ HK2.out) | (with_reducible refine same_then ?_ HK2.out (fun k hk => by omega)) | (with_reducible refine Keeps.trans ?_ HK1.out) | (with_reducible refine same_then ?_ HK1.out (fun k hk => by omega))))
set_option maxHeartbeats 2000000 in
set_option maxRecDepth 100000 in
theorem rmoved_54l (s : St) (a b imm v : Int) (hs : s.Ok) (a0 : 0 ≤ a) (a1 : a < 8) (v0 : 0 ≤ v) (v1 : v < 4294967296) (h : v % 256 < 128) (w : World) :
    Calls Try.prog 47 #[.agg (stA s), .agg #[.int .u8 54, .int .u8 a, .int .u8 b, .int .i32 imm], .int .u32 v] w fun e w' => e = .returned (.agg (stA (movedL s ⟨54, a, b, imm⟩ v))) ∧ Same w w' := by
  have q0 := hs.r0 7
  have q1 := hs.r1 7
  have h8 : a.toNat < 8 := by omega
  have m0 : 0 ≤ v % 256 := by omega
  have m1 : 0 ≤ v % 65536 := by omega
  clear hs
  go_enter Try.func47, Try.ntmps47
  go_wp2
  refine wp_region_rc [0, 1, 2, 3, 4, 5, 6] [7] 0 (Same _) (by kernel_rfl) (by kernel_rfl) (fun u u' h k => Keeps.trans h k) (Keeps.refl _ _).drew ?_
  simp only [opsOf, List.filterMap_cons, List.filterMap_nil, List.getElem?_cons_zero, List.getElem?_cons_succ]
  repeat (refine seqV_run (v := ?_) rfl (fun u hu => ?_) ?_; rotate_left; (focus (obtain ⟨hc, hf, hr, hl, hn, hm⟩ := same_facts hu; clear hu; go_simp; first | done | with_reducible rfl)); (try simp only [Act.put, List.setIfInBounds_toArray, List.set_cons_zero, List.set_cons_succ]))
  refine seqV_call (f := 90) (args := #[.int .u32 v, .int .i64 1]) (v := .int .u32 (sgnL v 1)) rfl (fun u hu => ?_) (fun u _ => ?_) ?_
  · go_simp
  · go_enter Try.func90, Try.ntmps90
    go_wp2
    go_ret
    exact ⟨by rw [← sgn_low1' v h]; rfl, Keeps.refl _ _⟩
  simp only [Act.put, List.setIfInBounds_toArray, List.set_cons_zero, List.set_cons_succ]
  repeat (refine seqV_run (v := ?_) rfl (fun u hu => ?_) ?_; rotate_left; (focus (obtain ⟨hc, hf, hr, hl, hn, hm⟩ := same_facts hu; clear hu; go_simp; first | done | with_reducible rfl)); (try simp only [Act.put, List.setIfInBounds_toArray, List.set_cons_zero, List.set_cons_succ]))
  refine seqV_nil ?_
  refine tailR_zero fun u1 hu _ => ?_
  (obtain ⟨hc1, hf1, hr1, -, -, -⟩ := same_facts hu); have lt_u1_0 : w.heap.size < u1.heap.size := (by have hh := (hu).size; (try simp at hh); omega); have lt_u1_1 : w.heap.size + 1 < u1.heap.size := (by have hh := (hu).size; (try simp at hh); omega); have lt_u1_2 : w.heap.size + 1 + 1 < u1.heap.size := (by have hh := (hu).size; (try simp at hh); omega); have lt1_u1_0 : w.heap.size < u1.heap.size + 1 := (by omega); have lt2_u1_0 : w.heap.size < u1.heap.size + 1 + 1 := (by omega); have lt1_u1_1 : w.heap.size + 1 < u1.heap.size + 1 := (by omega); have lt2_u1_1 : w.heap.size + 1 < u1.heap.size + 1 + 1 := (by omega); have lt1_u1_2 : w.heap.size + 1 + 1 < u1.heap.size + 1 := (by omega); have lt2_u1_2 : w.heap.size + 1 + 1 < u1.heap.size + 1 + 1 := (by omega); have rw_u1_0 := (hr1 (w.heap.size) (by (try simp); (try omega))).trans (show rowAt _ (w.heap.size) = _ by go_simp; rfl); have rw_u1_1 := (hr1 (w.heap.size + 1) (by (try simp); (try omega))).trans (show rowAt _ (w.heap.size + 1) = _ by go_simp; rfl); have rw_u1_2 := (hr1 (w.heap.size + 1 + 1) (by (try simp); (try omega))).trans (show rowAt _ (w.heap.size + 1 + 1) = _ by go_simp; rfl); have HK1 := hidE hu; clear hu
  go_wp2
  refine post_row rfl Try.underlying25 rfl infoS rfl rfl (by go_simp; rfl) (sa_size _) ⟨?_, ?_⟩
  · simp [movedL]
  · (repeat (first | with_reducible exact Keeps.refl _ _ | (with_reducible refine Keeps.drew ?_) | (with_reducible refine Keeps.alloc ?_ _) | (with_reducible refine Keeps.setRow ?_ (fun h => absurd h (by omega)) _) | (with_reducible refine Keeps.setCell ?_ (fun h => absurd h (by simp only []; omega)) _) | (with_reducible refine Keeps.trans ?_ HK8.out) | (with_reducible refine same_then ?_ HK8.out (fun k hk => by omega)) | (with_reducible refine Keeps.trans ?_ HK7.out) | (with_reducible refine same_then ?_ HK7.out (fun k hk => by omega)) | (with_reducible refine Keeps.trans ?_ HK6.out) | (with_reducible refine same_then ?_ HK6.out (fun k hk => by omega)) | (with_reducible refine Keeps.trans ?_ HK5.out) | (with_reducible refine same_then ?_ HK5.out (fun k hk => by omega)) | (with_reducible refine Keeps.trans ?_ HK4.out) | (with_reducible refine same_then ?_ HK4.out (fun k hk => by omega)) | (with_reducible refine Keeps.trans ?_ HK3.out) | (with_reducible refine same_then ?_ HK3.out (fun k hk => by omega)) | (with_reducible refine Keeps.trans ?_ HK2.out) | (with_reducible refine same_then ?_ HK2.out (fun k hk => by omega)) | (with_reducible refine Keeps.trans ?_ HK1.out) | (with_reducible refine same_then ?_ HK1.out (fun k hk => by omega))))
set_option maxHeartbeats 2000000 in
set_option maxRecDepth 100000 in
theorem rmoved_55h (s : St) (a b imm v : Int) (hs : s.Ok) (a0 : 0 ≤ a) (a1 : a < 8) (v0 : 0 ≤ v) (v1 : v < 4294967296) (h : 32768 ≤ v % 65536) (w : World) :
    Calls Try.prog 47 #[.agg (stA s), .agg #[.int .u8 55, .int .u8 a, .int .u8 b, .int .i32 imm], .int .u32 v] w fun e w' => e = .returned (.agg (stA (movedL s ⟨55, a, b, imm⟩ v))) ∧ Same w w' := by
  have q0 := hs.r0 7
  have q1 := hs.r1 7
  have h8 : a.toNat < 8 := by omega
  have m0 : 0 ≤ v % 256 := by omega
  have m1 : 0 ≤ v % 65536 := by omega
  clear hs
  go_enter Try.func47, Try.ntmps47
  go_wp2
  refine wp_region_rc [0, 1, 2, 3, 4, 5, 6] [7] 0 (Same _) (by kernel_rfl) (by kernel_rfl) (fun u u' h k => Keeps.trans h k) (Keeps.refl _ _).drew ?_
  simp only [opsOf, List.filterMap_cons, List.filterMap_nil, List.getElem?_cons_zero, List.getElem?_cons_succ]
  repeat (refine seqV_run (v := ?_) rfl (fun u hu => ?_) ?_; rotate_left; (focus (obtain ⟨hc, hf, hr, hl, hn, hm⟩ := same_facts hu; clear hu; go_simp; first | done | with_reducible rfl)); (try simp only [Act.put, List.setIfInBounds_toArray, List.set_cons_zero, List.set_cons_succ]))
  refine seqV_call (f := 90) (args := #[.int .u32 v, .int .i64 2]) (v := .int .u32 (sgnL v 2)) rfl (fun u hu => ?_) (fun u _ => ?_) ?_
  · go_simp
  · go_enter Try.func90, Try.ntmps90
    go_wp2
    go_ret
    exact ⟨by rw [← sgn_low2 v v0 h]; rfl, Keeps.refl _ _⟩
  simp only [Act.put, List.setIfInBounds_toArray, List.set_cons_zero, List.set_cons_succ]
  repeat (refine seqV_run (v := ?_) rfl (fun u hu => ?_) ?_; rotate_left; (focus (obtain ⟨hc, hf, hr, hl, hn, hm⟩ := same_facts hu; clear hu; go_simp; first | done | with_reducible rfl)); (try simp only [Act.put, List.setIfInBounds_toArray, List.set_cons_zero, List.set_cons_succ]))
  refine seqV_nil ?_
  refine tailR_zero fun u1 hu _ => ?_
  (obtain ⟨hc1, hf1, hr1, -, -, -⟩ := same_facts hu); have lt_u1_0 : w.heap.size < u1.heap.size := (by have hh := (hu).size; (try simp at hh); omega); have lt_u1_1 : w.heap.size + 1 < u1.heap.size := (by have hh := (hu).size; (try simp at hh); omega); have lt_u1_2 : w.heap.size + 1 + 1 < u1.heap.size := (by have hh := (hu).size; (try simp at hh); omega); have lt1_u1_0 : w.heap.size < u1.heap.size + 1 := (by omega); have lt2_u1_0 : w.heap.size < u1.heap.size + 1 + 1 := (by omega); have lt1_u1_1 : w.heap.size + 1 < u1.heap.size + 1 := (by omega); have lt2_u1_1 : w.heap.size + 1 < u1.heap.size + 1 + 1 := (by omega); have lt1_u1_2 : w.heap.size + 1 + 1 < u1.heap.size + 1 := (by omega); have lt2_u1_2 : w.heap.size + 1 + 1 < u1.heap.size + 1 + 1 := (by omega); have rw_u1_0 := (hr1 (w.heap.size) (by (try simp); (try omega))).trans (show rowAt _ (w.heap.size) = _ by go_simp; rfl); have rw_u1_1 := (hr1 (w.heap.size + 1) (by (try simp); (try omega))).trans (show rowAt _ (w.heap.size + 1) = _ by go_simp; rfl); have rw_u1_2 := (hr1 (w.heap.size + 1 + 1) (by (try simp); (try omega))).trans (show rowAt _ (w.heap.size + 1 + 1) = _ by go_simp; rfl); have HK1 := hidE hu; clear hu
  go_wp2
  refine post_row rfl Try.underlying25 rfl infoS rfl rfl (by go_simp; rfl) (sa_size _) ⟨?_, ?_⟩
  · simp [movedL]
  · (repeat (first | with_reducible exact Keeps.refl _ _ | (with_reducible refine Keeps.drew ?_) | (with_reducible refine Keeps.alloc ?_ _) | (with_reducible refine Keeps.setRow ?_ (fun h => absurd h (by omega)) _) | (with_reducible refine Keeps.setCell ?_ (fun h => absurd h (by simp only []; omega)) _) | (with_reducible refine Keeps.trans ?_ HK8.out) | (with_reducible refine same_then ?_ HK8.out (fun k hk => by omega)) | (with_reducible refine Keeps.trans ?_ HK7.out) | (with_reducible refine same_then ?_ HK7.out (fun k hk => by omega)) | (with_reducible refine Keeps.trans ?_ HK6.out) | (with_reducible refine same_then ?_ HK6.out (fun k hk => by omega)) | (with_reducible refine Keeps.trans ?_ HK5.out) | (with_reducible refine same_then ?_ HK5.out (fun k hk => by omega)) | (with_reducible refine Keeps.trans ?_ HK4.out) | (with_reducible refine same_then ?_ HK4.out (fun k hk => by omega)) | (with_reducible refine Keeps.trans ?_ HK3.out) | (with_reducible refine same_then ?_ HK3.out (fun k hk => by omega)) | (with_reducible refine Keeps.trans ?_ HK2.out) | (with_reducible refine same_then ?_ HK2.out (fun k hk => by omega)) | (with_reducible refine Keeps.trans ?_ HK1.out) | (with_reducible refine same_then ?_ HK1.out (fun k hk => by omega))))
set_option maxHeartbeats 2000000 in
set_option maxRecDepth 100000 in
theorem rmoved_55l (s : St) (a b imm v : Int) (hs : s.Ok) (a0 : 0 ≤ a) (a1 : a < 8) (v0 : 0 ≤ v) (v1 : v < 4294967296) (h : v % 65536 < 32768) (w : World) :
    Calls Try.prog 47 #[.agg (stA s), .agg #[.int .u8 55, .int .u8 a, .int .u8 b, .int .i32 imm], .int .u32 v] w fun e w' => e = .returned (.agg (stA (movedL s ⟨55, a, b, imm⟩ v))) ∧ Same w w' := by
  have q0 := hs.r0 7
  have q1 := hs.r1 7
  have h8 : a.toNat < 8 := by omega
  have m0 : 0 ≤ v % 256 := by omega
  have m1 : 0 ≤ v % 65536 := by omega
  clear hs
  go_enter Try.func47, Try.ntmps47
  go_wp2
  refine wp_region_rc [0, 1, 2, 3, 4, 5, 6] [7] 0 (Same _) (by kernel_rfl) (by kernel_rfl) (fun u u' h k => Keeps.trans h k) (Keeps.refl _ _).drew ?_
  simp only [opsOf, List.filterMap_cons, List.filterMap_nil, List.getElem?_cons_zero, List.getElem?_cons_succ]
  repeat (refine seqV_run (v := ?_) rfl (fun u hu => ?_) ?_; rotate_left; (focus (obtain ⟨hc, hf, hr, hl, hn, hm⟩ := same_facts hu; clear hu; go_simp; first | done | with_reducible rfl)); (try simp only [Act.put, List.setIfInBounds_toArray, List.set_cons_zero, List.set_cons_succ]))
  refine seqV_call (f := 90) (args := #[.int .u32 v, .int .i64 2]) (v := .int .u32 (sgnL v 2)) rfl (fun u hu => ?_) (fun u _ => ?_) ?_
  · go_simp
  · go_enter Try.func90, Try.ntmps90
    go_wp2
    go_ret
    exact ⟨by rw [← sgn_low2' v h]; rfl, Keeps.refl _ _⟩
  simp only [Act.put, List.setIfInBounds_toArray, List.set_cons_zero, List.set_cons_succ]
  repeat (refine seqV_run (v := ?_) rfl (fun u hu => ?_) ?_; rotate_left; (focus (obtain ⟨hc, hf, hr, hl, hn, hm⟩ := same_facts hu; clear hu; go_simp; first | done | with_reducible rfl)); (try simp only [Act.put, List.setIfInBounds_toArray, List.set_cons_zero, List.set_cons_succ]))
  refine seqV_nil ?_
  refine tailR_zero fun u1 hu _ => ?_
  (obtain ⟨hc1, hf1, hr1, -, -, -⟩ := same_facts hu); have lt_u1_0 : w.heap.size < u1.heap.size := (by have hh := (hu).size; (try simp at hh); omega); have lt_u1_1 : w.heap.size + 1 < u1.heap.size := (by have hh := (hu).size; (try simp at hh); omega); have lt_u1_2 : w.heap.size + 1 + 1 < u1.heap.size := (by have hh := (hu).size; (try simp at hh); omega); have lt1_u1_0 : w.heap.size < u1.heap.size + 1 := (by omega); have lt2_u1_0 : w.heap.size < u1.heap.size + 1 + 1 := (by omega); have lt1_u1_1 : w.heap.size + 1 < u1.heap.size + 1 := (by omega); have lt2_u1_1 : w.heap.size + 1 < u1.heap.size + 1 + 1 := (by omega); have lt1_u1_2 : w.heap.size + 1 + 1 < u1.heap.size + 1 := (by omega); have lt2_u1_2 : w.heap.size + 1 + 1 < u1.heap.size + 1 + 1 := (by omega); have rw_u1_0 := (hr1 (w.heap.size) (by (try simp); (try omega))).trans (show rowAt _ (w.heap.size) = _ by go_simp; rfl); have rw_u1_1 := (hr1 (w.heap.size + 1) (by (try simp); (try omega))).trans (show rowAt _ (w.heap.size + 1) = _ by go_simp; rfl); have rw_u1_2 := (hr1 (w.heap.size + 1 + 1) (by (try simp); (try omega))).trans (show rowAt _ (w.heap.size + 1 + 1) = _ by go_simp; rfl); have HK1 := hidE hu; clear hu
  go_wp2
  refine post_row rfl Try.underlying25 rfl infoS rfl rfl (by go_simp; rfl) (sa_size _) ⟨?_, ?_⟩
  · simp [movedL]
  · (repeat (first | with_reducible exact Keeps.refl _ _ | (with_reducible refine Keeps.drew ?_) | (with_reducible refine Keeps.alloc ?_ _) | (with_reducible refine Keeps.setRow ?_ (fun h => absurd h (by omega)) _) | (with_reducible refine Keeps.setCell ?_ (fun h => absurd h (by simp only []; omega)) _) | (with_reducible refine Keeps.trans ?_ HK8.out) | (with_reducible refine same_then ?_ HK8.out (fun k hk => by omega)) | (with_reducible refine Keeps.trans ?_ HK7.out) | (with_reducible refine same_then ?_ HK7.out (fun k hk => by omega)) | (with_reducible refine Keeps.trans ?_ HK6.out) | (with_reducible refine same_then ?_ HK6.out (fun k hk => by omega)) | (with_reducible refine Keeps.trans ?_ HK5.out) | (with_reducible refine same_then ?_ HK5.out (fun k hk => by omega)) | (with_reducible refine Keeps.trans ?_ HK4.out) | (with_reducible refine same_then ?_ HK4.out (fun k hk => by omega)) | (with_reducible refine Keeps.trans ?_ HK3.out) | (with_reducible refine same_then ?_ HK3.out (fun k hk => by omega)) | (with_reducible refine Keeps.trans ?_ HK2.out) | (with_reducible refine same_then ?_ HK2.out (fun k hk => by omega)) | (with_reducible refine Keeps.trans ?_ HK1.out) | (with_reducible refine same_then ?_ HK1.out (fun k hk => by omega))))
set_option maxHeartbeats 2000000 in
set_option maxRecDepth 100000 in
theorem rmoved_56 (s : St) (a b imm v : Int) (hs : s.Ok) (a0 : 0 ≤ a) (a1 : a < 8) (_v0 : 0 ≤ v) (_v1 : v < 4294967296) (w : World) :
    Calls Try.prog 47 #[.agg (stA s), .agg #[.int .u8 56, .int .u8 a, .int .u8 b, .int .i32 imm], .int .u32 v] w fun e w' => e = .returned (.agg (stA (movedL s ⟨56, a, b, imm⟩ v))) ∧ Same w w' := by
  have q0 := hs.r0 7
  have q1 := hs.r1 7
  have h8 : a.toNat < 8 := by omega
  have m0 : 0 ≤ v % 256 := by omega
  have m1 : 0 ≤ v % 65536 := by omega
  clear hs
  go_enter Try.func47, Try.ntmps47
  go_wp2
  refine post_row rfl Try.underlying25 rfl infoS rfl rfl (by go_simp; rfl) (sa_size _) ⟨?_, ?_⟩
  · simp [movedL]
  · (repeat (first | with_reducible exact Keeps.refl _ _ | (with_reducible refine Keeps.drew ?_) | (with_reducible refine Keeps.alloc ?_ _) | (with_reducible refine Keeps.setRow ?_ (fun h => absurd h (by omega)) _) | (with_reducible refine Keeps.setCell ?_ (fun h => absurd h (by simp only []; omega)) _) | (with_reducible refine Keeps.trans ?_ HK8.out) | (with_reducible refine same_then ?_ HK8.out (fun k hk => by omega)) | (with_reducible refine Keeps.trans ?_ HK7.out) | (with_reducible refine same_then ?_ HK7.out (fun k hk => by omega)) | (with_reducible refine Keeps.trans ?_ HK6.out) | (with_reducible refine same_then ?_ HK6.out (fun k hk => by omega)) | (with_reducible refine Keeps.trans ?_ HK5.out) | (with_reducible refine same_then ?_ HK5.out (fun k hk => by omega)) | (with_reducible refine Keeps.trans ?_ HK4.out) | (with_reducible refine same_then ?_ HK4.out (fun k hk => by omega)) | (with_reducible refine Keeps.trans ?_ HK3.out) | (with_reducible refine same_then ?_ HK3.out (fun k hk => by omega)) | (with_reducible refine Keeps.trans ?_ HK2.out) | (with_reducible refine same_then ?_ HK2.out (fun k hk => by omega)) | (with_reducible refine Keeps.trans ?_ HK1.out) | (with_reducible refine same_then ?_ HK1.out (fun k hk => by omega))))
set_option maxHeartbeats 2000000 in
set_option maxRecDepth 100000 in
theorem rmoved_57 (s : St) (a b imm v : Int) (hs : s.Ok) (a0 : 0 ≤ a) (a1 : a < 8) (_v0 : 0 ≤ v) (_v1 : v < 4294967296) (w : World) :
    Calls Try.prog 47 #[.agg (stA s), .agg #[.int .u8 57, .int .u8 a, .int .u8 b, .int .i32 imm], .int .u32 v] w fun e w' => e = .returned (.agg (stA (movedL s ⟨57, a, b, imm⟩ v))) ∧ Same w w' := by
  have q0 := hs.r0 7
  have q1 := hs.r1 7
  have h8 : a.toNat < 8 := by omega
  have m0 : 0 ≤ v % 256 := by omega
  have m1 : 0 ≤ v % 65536 := by omega
  clear hs
  go_enter Try.func47, Try.ntmps47
  go_wp2
  refine post_row rfl Try.underlying25 rfl infoS rfl rfl (by go_simp; rfl) (sa_size _) ⟨?_, ?_⟩
  · simp [movedL]
  · (repeat (first | with_reducible exact Keeps.refl _ _ | (with_reducible refine Keeps.drew ?_) | (with_reducible refine Keeps.alloc ?_ _) | (with_reducible refine Keeps.setRow ?_ (fun h => absurd h (by omega)) _) | (with_reducible refine Keeps.setCell ?_ (fun h => absurd h (by simp only []; omega)) _) | (with_reducible refine Keeps.trans ?_ HK8.out) | (with_reducible refine same_then ?_ HK8.out (fun k hk => by omega)) | (with_reducible refine Keeps.trans ?_ HK7.out) | (with_reducible refine same_then ?_ HK7.out (fun k hk => by omega)) | (with_reducible refine Keeps.trans ?_ HK6.out) | (with_reducible refine same_then ?_ HK6.out (fun k hk => by omega)) | (with_reducible refine Keeps.trans ?_ HK5.out) | (with_reducible refine same_then ?_ HK5.out (fun k hk => by omega)) | (with_reducible refine Keeps.trans ?_ HK4.out) | (with_reducible refine same_then ?_ HK4.out (fun k hk => by omega)) | (with_reducible refine Keeps.trans ?_ HK3.out) | (with_reducible refine same_then ?_ HK3.out (fun k hk => by omega)) | (with_reducible refine Keeps.trans ?_ HK2.out) | (with_reducible refine same_then ?_ HK2.out (fun k hk => by omega)) | (with_reducible refine Keeps.trans ?_ HK1.out) | (with_reducible refine same_then ?_ HK1.out (fun k hk => by omega))))
set_option maxHeartbeats 2000000 in
set_option maxRecDepth 100000 in
theorem rmoved_58 (s : St) (a b imm v : Int) (hs : s.Ok) (a0 : 0 ≤ a) (a1 : a < 8) (_v0 : 0 ≤ v) (_v1 : v < 4294967296) (w : World) :
    Calls Try.prog 47 #[.agg (stA s), .agg #[.int .u8 58, .int .u8 a, .int .u8 b, .int .i32 imm], .int .u32 v] w fun e w' => e = .returned (.agg (stA (movedL s ⟨58, a, b, imm⟩ v))) ∧ Same w w' := by
  have q0 := hs.r0 7
  have q1 := hs.r1 7
  have h8 : a.toNat < 8 := by omega
  have m0 : 0 ≤ v % 256 := by omega
  have m1 : 0 ≤ v % 65536 := by omega
  clear hs
  go_enter Try.func47, Try.ntmps47
  go_wp2
  refine wp_region_rc [0, 1, 2, 3, 4, 5, 6] [7] 0 (Same _) (by kernel_rfl) (by kernel_rfl) (fun u u' h k => Keeps.trans h k) (Keeps.refl _ _).drew ?_
  simp only [opsOf, List.filterMap_cons, List.filterMap_nil, List.getElem?_cons_zero, List.getElem?_cons_succ]
  repeat (refine seqV_run (v := ?_) rfl (fun u hu => ?_) ?_; rotate_left; (focus (obtain ⟨hc, hf, hr, hl, hn, hm⟩ := same_facts hu; clear hu; go_simp; first | done | with_reducible rfl)); (try simp only [Act.put, List.setIfInBounds_toArray, List.set_cons_zero, List.set_cons_succ]))
  refine seqV_call (f := 38) (args := #[.int .u32 v, .int .i64 4]) (v := .int .u32 v) rfl (fun u hu => ?_) (fun u _ => ?_) ?_
  · go_simp
  · go_enter Try.func38, Try.ntmps38
    go_wp2
    go_ret
    exact ⟨rfl, Keeps.refl _ _⟩
  simp only [Act.put, List.setIfInBounds_toArray, List.set_cons_zero, List.set_cons_succ]
  repeat (refine seqV_run (v := ?_) rfl (fun u hu => ?_) ?_; rotate_left; (focus (obtain ⟨hc, hf, hr, hl, hn, hm⟩ := same_facts hu; clear hu; go_simp; first | done | with_reducible rfl)); (try simp only [Act.put, List.setIfInBounds_toArray, List.set_cons_zero, List.set_cons_succ]))
  refine seqV_nil ?_
  refine tailR_zero fun u1 hu _ => ?_
  (obtain ⟨hc1, hf1, hr1, -, -, -⟩ := same_facts hu); have lt_u1_0 : w.heap.size < u1.heap.size := (by have hh := (hu).size; (try simp at hh); omega); have lt_u1_1 : w.heap.size + 1 < u1.heap.size := (by have hh := (hu).size; (try simp at hh); omega); have lt_u1_2 : w.heap.size + 1 + 1 < u1.heap.size := (by have hh := (hu).size; (try simp at hh); omega); have lt1_u1_0 : w.heap.size < u1.heap.size + 1 := (by omega); have lt2_u1_0 : w.heap.size < u1.heap.size + 1 + 1 := (by omega); have lt1_u1_1 : w.heap.size + 1 < u1.heap.size + 1 := (by omega); have lt2_u1_1 : w.heap.size + 1 < u1.heap.size + 1 + 1 := (by omega); have lt1_u1_2 : w.heap.size + 1 + 1 < u1.heap.size + 1 := (by omega); have lt2_u1_2 : w.heap.size + 1 + 1 < u1.heap.size + 1 + 1 := (by omega); have rw_u1_0 := (hr1 (w.heap.size) (by (try simp); (try omega))).trans (show rowAt _ (w.heap.size) = _ by go_simp; rfl); have rw_u1_1 := (hr1 (w.heap.size + 1) (by (try simp); (try omega))).trans (show rowAt _ (w.heap.size + 1) = _ by go_simp; rfl); have rw_u1_2 := (hr1 (w.heap.size + 1 + 1) (by (try simp); (try omega))).trans (show rowAt _ (w.heap.size + 1 + 1) = _ by go_simp; rfl); have HK1 := hidE hu; clear hu
  go_wp2
  refine post_row rfl Try.underlying25 rfl infoS rfl rfl (by go_simp; rfl) (sa_size _) ⟨?_, ?_⟩
  · simp [movedL]
  · (repeat (first | with_reducible exact Keeps.refl _ _ | (with_reducible refine Keeps.drew ?_) | (with_reducible refine Keeps.alloc ?_ _) | (with_reducible refine Keeps.setRow ?_ (fun h => absurd h (by omega)) _) | (with_reducible refine Keeps.setCell ?_ (fun h => absurd h (by simp only []; omega)) _) | (with_reducible refine Keeps.trans ?_ HK8.out) | (with_reducible refine same_then ?_ HK8.out (fun k hk => by omega)) | (with_reducible refine Keeps.trans ?_ HK7.out) | (with_reducible refine same_then ?_ HK7.out (fun k hk => by omega)) | (with_reducible refine Keeps.trans ?_ HK6.out) | (with_reducible refine same_then ?_ HK6.out (fun k hk => by omega)) | (with_reducible refine Keeps.trans ?_ HK5.out) | (with_reducible refine same_then ?_ HK5.out (fun k hk => by omega)) | (with_reducible refine Keeps.trans ?_ HK4.out) | (with_reducible refine same_then ?_ HK4.out (fun k hk => by omega)) | (with_reducible refine Keeps.trans ?_ HK3.out) | (with_reducible refine same_then ?_ HK3.out (fun k hk => by omega)) | (with_reducible refine Keeps.trans ?_ HK2.out) | (with_reducible refine same_then ?_ HK2.out (fun k hk => by omega)) | (with_reducible refine Keeps.trans ?_ HK1.out) | (with_reducible refine same_then ?_ HK1.out (fun k hk => by omega))))
theorem rmoved_any (s : St) (op a b imm v : Int) (c0 : 48 ≤ op) (c1 : op ≤ 58) (hs : s.Ok) (a0 : 0 ≤ a) (a1 : a < 8) (v0 : 0 ≤ v) (v1 : v < 4294967296) (w : World) :
    Calls Try.prog 47 #[.agg (stA s), .agg #[.int .u8 op, .int .u8 a, .int .u8 b, .int .i32 imm], .int .u32 v] w fun e w' => e = .returned (.agg (stA (movedL s ⟨op, a, b, imm⟩ v))) ∧ Same w w' := by
  rcases (show op = 48 ∨ op = 49 ∨ op = 50 ∨ op = 51 ∨ op = 52 ∨ op = 53 ∨ op = 54 ∨ op = 55 ∨ op = 56 ∨ op = 57 ∨ op = 58 by omega) with rfl | rfl | rfl | rfl | rfl | rfl | rfl | rfl | rfl | rfl | rfl
  · exact rmoved_48 s a b imm v hs a0 a1 v0 v1 w
  · exact rmoved_49 s a b imm v hs a0 a1 v0 v1 w
  · exact rmoved_50 s a b imm v hs a0 a1 v0 v1 w
  · exact rmoved_51 s a b imm v hs a0 a1 v0 v1 w
  · exact rmoved_52 s a b imm v hs a0 a1 v0 v1 w
  · exact rmoved_53 s a b imm v hs a0 a1 v0 v1 w
  · by_cases h : v % 256 < 128
    · exact rmoved_54l s a b imm v hs a0 a1 v0 v1 h w
    · exact rmoved_54h s a b imm v hs a0 a1 v0 v1 (by omega) w
  · by_cases h : v % 65536 < 32768
    · exact rmoved_55l s a b imm v hs a0 a1 v0 v1 h w
    · exact rmoved_55h s a b imm v hs a0 a1 v0 v1 (by omega) w
  · exact rmoved_56 s a b imm v hs a0 a1 v0 v1 w
  · exact rmoved_57 s a b imm v hs a0 a1 v0 v1 w
  · exact rmoved_58 s a b imm v hs a0 a1 v0 v1 w
end Go.Proofs.Ytdbfjgmehmbefaa
