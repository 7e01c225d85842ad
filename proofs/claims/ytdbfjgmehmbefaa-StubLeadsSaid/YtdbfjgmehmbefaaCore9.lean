/- Package core: none, jump. -/
import Derived.Test.YtdbfjgmehmbefaaCoreS
import Derived.Test.YtdbfjgmehmbefaaRa
namespace Go.Proofs.Ytdbfjgmehmbefaa
open Go.RowKit
attribute [local go_sem ↓] x_ldS x_stS x_ldI x_stI x_ldA x_stA x_ldF x_stF
attribute [local go_sem] ne_s1 en_s1 ne_s2 en_s2 ne_s3 en_s3 ne_s4 en_s4 ne_s5 en_s5 ne_s6 en_s6 ne_s7 en_s7 ne_s8 en_s8 ne_s9 en_s9 ne_s10 en_s10 ne_s11 en_s11 lt_s2 lt_s3 lt_s4 lt_s5 lt_s6 lt_s7 lt_s8 lt_s9 lt_s10 lt_s11 rowAt_at rowAt_old rowAt_drew rowAt_drewN setRow_drew setRow_at setRow_old setCell_row setRow_setRow rowAt_setRow_eq rowAt_setRow_ne cell_setRow_eq cell_setRow_ne frozen_setRow_eq frozen_setRow_ne ones_lit oc_int oc_bool oc_str oc_ptr oc_sl oc_map oc_fn oc_nf oc_ni oc_if ld_S st_S ld_I st_I ld_A st_A ld_F st_F sa_size sa_one ac_size fl_size ac_one fl_one fl_c fl_a fg_c fg_a sa_pc sa_ps sg_pc sg_ps sa_r6 sa_r7 sg_r6 sg_r7 sa_r sg_r ss_pc ss_ps ss_r6 ss_r7 ss_r st0_eq

theorem ta_near (n m : Int) (u : World) : (Instr.typeAssert (.iface 140 (.agg #[.int .u32 n, .int .i32 m])) 142 140 true).run Try.prog u = .ok (.tuple #[.agg #[.int .u32 n, .int .i32 m], .bool true]) u := by kernel_rfl
theorem ta_far0 (a : Int) (u : World) : (Instr.typeAssert (.iface 144 (.agg #[.int .u8 a])) 142 140 true).run Try.prog u = .ok (.tuple #[.agg #[.int .u32 0, .int .i32 0], .bool false]) u := by kernel_rfl
theorem ta_far (a : Int) (u : World) : (Instr.typeAssert (.iface 144 (.agg #[.int .u8 a])) 142 144 true).run Try.prog u = .ok (.tuple #[.agg #[.int .u8 a], .bool true]) u := by kernel_rfl
attribute [local go_sem] ta_near ta_far0 ta_far
set_option maxHeartbeats 2000000 in
set_option maxRecDepth 100000 in
theorem none_may (op a b imm : Int) (hi : (⟨op, a, b, imm⟩ : In).Ok) (hm : mayB ⟨op, a, b, imm⟩ false = false) (w : World) :
    Calls Try.prog 39 #[.agg #[.int .u8 op, .int .u8 a, .int .u8 b, .int .i32 imm]] w fun e w' => e = .returned (.bool true) ∧ Same w w' := by
  have HM : Hid (∀ w, _) := hidE (fun w => may_any _ false hi w)
  rw [hm] at HM
  simp only [inA] at HM
  clear hm hi
  go_enter Try.func39, Try.ntmps39
  go_wp2_with fail
  refine (HM.out _).mono ?_
  rintro e w1 ⟨rfl, hk⟩
  (obtain ⟨hc1, hf1, hr1, -, -, -⟩ := same_facts hk); have lt_w1_0 : w.heap.size < w1.heap.size := (by have hh := (hk).size; (try simp at hh); omega); have lt1_w1_0 : w.heap.size < w1.heap.size + 1 := (by omega); have lt2_w1_0 : w.heap.size < w1.heap.size + 1 + 1 := (by omega); have rw_w1_0 := (hr1 (w.heap.size) (by (try simp); (try omega))).trans (show rowAt _ (w.heap.size) = _ by go_simp; rfl); have HK1 := hidE hk; clear hk
  go_wp2
  go_ret
  refine ⟨by first | rfl | (simp; omega), ?_⟩
  (repeat (first | with_reducible exact Keeps.refl _ _ | (with_reducible refine Keeps.drew ?_) | (with_reducible refine Keeps.alloc ?_ _) | (with_reducible refine Keeps.setRow ?_ (fun h => absurd h (by omega)) _) | (with_reducible refine Keeps.setCell ?_ (fun h => absurd h (by simp only []; omega)) _) | (with_reducible refine Keeps.trans ?_ HK8.out) | (with_reducible refine same_then ?_ HK8.out (fun k hk => by omega)) | (with_reducible refine Keeps.trans ?_ HK7.out) | (with_reducible refine same_then ?_ HK7.out (fun k hk => by omega)) | (with_reducible refine Keeps.trans ?_ HK6.out) | (with_reducible refine same_then ?_ HK6.out (fun k hk => by omega)) | (with_reducible refine Keeps.trans ?_ HK5.out) | (with_reducible refine same_then ?_ HK5.out (fun k hk => by omega)) | (with_reducible refine Keeps.trans ?_ HK4.out) | (with_reducible refine same_then ?_ HK4.out (fun k hk => by omega)) | (with_reducible refine Keeps.trans ?_ HK3.out) | (with_reducible refine same_then ?_ HK3.out (fun k hk => by omega)) | (with_reducible refine Keeps.trans ?_ HK2.out) | (with_reducible refine same_then ?_ HK2.out (fun k hk => by omega)) | (with_reducible refine Keeps.trans ?_ HK1.out) | (with_reducible refine same_then ?_ HK1.out (fun k hk => by omega))))
set_option maxHeartbeats 2000000 in
set_option maxRecDepth 100000 in
theorem none_low (op a b imm : Int) (hi : (⟨op, a, b, imm⟩ : In).Ok) (hm : mayB ⟨op, a, b, imm⟩ false = true) (c0 : 1 ≤ op) (c1 : op ≤ 3) (w : World) :
    Calls Try.prog 39 #[.agg #[.int .u8 op, .int .u8 a, .int .u8 b, .int .i32 imm]] w fun e w' => e = .returned (.bool true) ∧ Same w w' := by
  have HM : Hid (∀ w, _) := hidE (fun w => may_any _ false hi w)
  rw [hm] at HM
  simp only [inA] at HM
  clear hm hi
  go_enter Try.func39, Try.ntmps39
  go_wp2_with fail
  refine (HM.out _).mono ?_
  rintro e w1 ⟨rfl, hk⟩
  (obtain ⟨hc1, hf1, hr1, -, -, -⟩ := same_facts hk); have lt_w1_0 : w.heap.size < w1.heap.size := (by have hh := (hk).size; (try simp at hh); omega); have lt1_w1_0 : w.heap.size < w1.heap.size + 1 := (by omega); have lt2_w1_0 : w.heap.size < w1.heap.size + 1 + 1 := (by omega); have rw_w1_0 := (hr1 (w.heap.size) (by (try simp); (try omega))).trans (show rowAt _ (w.heap.size) = _ by go_simp; rfl); have HK1 := hidE hk; clear hk
  go_wp2
  go_ret
  refine ⟨by first | rfl | (simp; omega), ?_⟩
  (repeat (first | with_reducible exact Keeps.refl _ _ | (with_reducible refine Keeps.drew ?_) | (with_reducible refine Keeps.alloc ?_ _) | (with_reducible refine Keeps.setRow ?_ (fun h => absurd h (by omega)) _) | (with_reducible refine Keeps.setCell ?_ (fun h => absurd h (by simp only []; omega)) _) | (with_reducible refine Keeps.trans ?_ HK8.out) | (with_reducible refine same_then ?_ HK8.out (fun k hk => by omega)) | (with_reducible refine Keeps.trans ?_ HK7.out) | (with_reducible refine same_then ?_ HK7.out (fun k hk => by omega)) | (with_reducible refine Keeps.trans ?_ HK6.out) | (with_reducible refine same_then ?_ HK6.out (fun k hk => by omega)) | (with_reducible refine Keeps.trans ?_ HK5.out) | (with_reducible refine same_then ?_ HK5.out (fun k hk => by omega)) | (with_reducible refine Keeps.trans ?_ HK4.out) | (with_reducible refine same_then ?_ HK4.out (fun k hk => by omega)) | (with_reducible refine Keeps.trans ?_ HK3.out) | (with_reducible refine same_then ?_ HK3.out (fun k hk => by omega)) | (with_reducible refine Keeps.trans ?_ HK2.out) | (with_reducible refine same_then ?_ HK2.out (fun k hk => by omega)) | (with_reducible refine Keeps.trans ?_ HK1.out) | (with_reducible refine same_then ?_ HK1.out (fun k hk => by omega))))
set_option maxHeartbeats 2000000 in
set_option maxRecDepth 100000 in
theorem none_high (op a b imm : Int) (hi : (⟨op, a, b, imm⟩ : In).Ok) (hm : mayB ⟨op, a, b, imm⟩ false = true) (c0 : 96 ≤ op) (w : World) :
    Calls Try.prog 39 #[.agg #[.int .u8 op, .int .u8 a, .int .u8 b, .int .i32 imm]] w fun e w' => e = .returned (.bool true) ∧ Same w w' := by
  have HM : Hid (∀ w, _) := hidE (fun w => may_any _ false hi w)
  rw [hm] at HM
  simp only [inA] at HM
  clear hm hi
  have c1 : 1 ≤ op := by omega
  have c2 : 3 < op := by omega
  go_enter Try.func39, Try.ntmps39
  go_wp2_with fail
  refine (HM.out _).mono ?_
  rintro e w1 ⟨rfl, hk⟩
  (obtain ⟨hc1, hf1, hr1, -, -, -⟩ := same_facts hk); have lt_w1_0 : w.heap.size < w1.heap.size := (by have hh := (hk).size; (try simp at hh); omega); have lt1_w1_0 : w.heap.size < w1.heap.size + 1 := (by omega); have lt2_w1_0 : w.heap.size < w1.heap.size + 1 + 1 := (by omega); have rw_w1_0 := (hr1 (w.heap.size) (by (try simp); (try omega))).trans (show rowAt _ (w.heap.size) = _ by go_simp; rfl); have HK1 := hidE hk; clear hk
  go_wp2
  go_ret
  refine ⟨by first | rfl | (simp; omega), ?_⟩
  (repeat (first | with_reducible exact Keeps.refl _ _ | (with_reducible refine Keeps.drew ?_) | (with_reducible refine Keeps.alloc ?_ _) | (with_reducible refine Keeps.setRow ?_ (fun h => absurd h (by omega)) _) | (with_reducible refine Keeps.setCell ?_ (fun h => absurd h (by simp only []; omega)) _) | (with_reducible refine Keeps.trans ?_ HK8.out) | (with_reducible refine same_then ?_ HK8.out (fun k hk => by omega)) | (with_reducible refine Keeps.trans ?_ HK7.out) | (with_reducible refine same_then ?_ HK7.out (fun k hk => by omega)) | (with_reducible refine Keeps.trans ?_ HK6.out) | (with_reducible refine same_then ?_ HK6.out (fun k hk => by omega)) | (with_reducible refine Keeps.trans ?_ HK5.out) | (with_reducible refine same_then ?_ HK5.out (fun k hk => by omega)) | (with_reducible refine Keeps.trans ?_ HK4.out) | (with_reducible refine same_then ?_ HK4.out (fun k hk => by omega)) | (with_reducible refine Keeps.trans ?_ HK3.out) | (with_reducible refine same_then ?_ HK3.out (fun k hk => by omega)) | (with_reducible refine Keeps.trans ?_ HK2.out) | (with_reducible refine same_then ?_ HK2.out (fun k hk => by omega)) | (with_reducible refine Keeps.trans ?_ HK1.out) | (with_reducible refine same_then ?_ HK1.out (fun k hk => by omega))))
set_option maxHeartbeats 2000000 in
set_option maxRecDepth 100000 in
theorem none_no0 (op a b imm : Int) (hi : (⟨op, a, b, imm⟩ : In).Ok) (hm : mayB ⟨op, a, b, imm⟩ false = true) (c0 : op = 0) (w : World) :
    Calls Try.prog 39 #[.agg #[.int .u8 op, .int .u8 a, .int .u8 b, .int .i32 imm]] w fun e w' => e = .returned (.bool false) ∧ Same w w' := by
  have HM : Hid (∀ w, _) := hidE (fun w => may_any _ false hi w)
  rw [hm] at HM
  simp only [inA] at HM
  clear hm hi
  subst c0
  go_enter Try.func39, Try.ntmps39
  go_wp2_with fail
  refine (HM.out _).mono ?_
  rintro e w1 ⟨rfl, hk⟩
  (obtain ⟨hc1, hf1, hr1, -, -, -⟩ := same_facts hk); have lt_w1_0 : w.heap.size < w1.heap.size := (by have hh := (hk).size; (try simp at hh); omega); have lt1_w1_0 : w.heap.size < w1.heap.size + 1 := (by omega); have lt2_w1_0 : w.heap.size < w1.heap.size + 1 + 1 := (by omega); have rw_w1_0 := (hr1 (w.heap.size) (by (try simp); (try omega))).trans (show rowAt _ (w.heap.size) = _ by go_simp; rfl); have HK1 := hidE hk; clear hk
  go_wp2
  go_ret
  refine ⟨by first | rfl | (simp; omega), ?_⟩
  (repeat (first | with_reducible exact Keeps.refl _ _ | (with_reducible refine Keeps.drew ?_) | (with_reducible refine Keeps.alloc ?_ _) | (with_reducible refine Keeps.setRow ?_ (fun h => absurd h (by omega)) _) | (with_reducible refine Keeps.setCell ?_ (fun h => absurd h (by simp only []; omega)) _) | (with_reducible refine Keeps.trans ?_ HK8.out) | (with_reducible refine same_then ?_ HK8.out (fun k hk => by omega)) | (with_reducible refine Keeps.trans ?_ HK7.out) | (with_reducible refine same_then ?_ HK7.out (fun k hk => by omega)) | (with_reducible refine Keeps.trans ?_ HK6.out) | (with_reducible refine same_then ?_ HK6.out (fun k hk => by omega)) | (with_reducible refine Keeps.trans ?_ HK5.out) | (with_reducible refine same_then ?_ HK5.out (fun k hk => by omega)) | (with_reducible refine Keeps.trans ?_ HK4.out) | (with_reducible refine same_then ?_ HK4.out (fun k hk => by omega)) | (with_reducible refine Keeps.trans ?_ HK3.out) | (with_reducible refine same_then ?_ HK3.out (fun k hk => by omega)) | (with_reducible refine Keeps.trans ?_ HK2.out) | (with_reducible refine same_then ?_ HK2.out (fun k hk => by omega)) | (with_reducible refine Keeps.trans ?_ HK1.out) | (with_reducible refine same_then ?_ HK1.out (fun k hk => by omega))))
set_option maxHeartbeats 2000000 in
set_option maxRecDepth 100000 in
theorem none_no (op a b imm : Int) (hi : (⟨op, a, b, imm⟩ : In).Ok) (hm : mayB ⟨op, a, b, imm⟩ false = true) (c0 : 3 < op) (c1 : op < 96) (w : World) :
    Calls Try.prog 39 #[.agg #[.int .u8 op, .int .u8 a, .int .u8 b, .int .i32 imm]] w fun e w' => e = .returned (.bool false) ∧ Same w w' := by
  have HM : Hid (∀ w, _) := hidE (fun w => may_any _ false hi w)
  rw [hm] at HM
  simp only [inA] at HM
  clear hm hi
  have c2 : 1 ≤ op := by omega
  go_enter Try.func39, Try.ntmps39
  go_wp2_with fail
  refine (HM.out _).mono ?_
  rintro e w1 ⟨rfl, hk⟩
  (obtain ⟨hc1, hf1, hr1, -, -, -⟩ := same_facts hk); have lt_w1_0 : w.heap.size < w1.heap.size := (by have hh := (hk).size; (try simp at hh); omega); have lt1_w1_0 : w.heap.size < w1.heap.size + 1 := (by omega); have lt2_w1_0 : w.heap.size < w1.heap.size + 1 + 1 := (by omega); have rw_w1_0 := (hr1 (w.heap.size) (by (try simp); (try omega))).trans (show rowAt _ (w.heap.size) = _ by go_simp; rfl); have HK1 := hidE hk; clear hk
  go_wp2
  go_ret
  refine ⟨by first | rfl | (simp; omega), ?_⟩
  (repeat (first | with_reducible exact Keeps.refl _ _ | (with_reducible refine Keeps.drew ?_) | (with_reducible refine Keeps.alloc ?_ _) | (with_reducible refine Keeps.setRow ?_ (fun h => absurd h (by omega)) _) | (with_reducible refine Keeps.setCell ?_ (fun h => absurd h (by simp only []; omega)) _) | (with_reducible refine Keeps.trans ?_ HK8.out) | (with_reducible refine same_then ?_ HK8.out (fun k hk => by omega)) | (with_reducible refine Keeps.trans ?_ HK7.out) | (with_reducible refine same_then ?_ HK7.out (fun k hk => by omega)) | (with_reducible refine Keeps.trans ?_ HK6.out) | (with_reducible refine same_then ?_ HK6.out (fun k hk => by omega)) | (with_reducible refine Keeps.trans ?_ HK5.out) | (with_reducible refine same_then ?_ HK5.out (fun k hk => by omega)) | (with_reducible refine Keeps.trans ?_ HK4.out) | (with_reducible refine same_then ?_ HK4.out (fun k hk => by omega)) | (with_reducible refine Keeps.trans ?_ HK3.out) | (with_reducible refine same_then ?_ HK3.out (fun k hk => by omega)) | (with_reducible refine Keeps.trans ?_ HK2.out) | (with_reducible refine same_then ?_ HK2.out (fun k hk => by omega)) | (with_reducible refine Keeps.trans ?_ HK1.out) | (with_reducible refine same_then ?_ HK1.out (fun k hk => by omega))))
theorem none_any (i : In) (hi : i.Ok) (w : World) : Calls Try.prog 39 #[.agg (inA i)] w fun e w' => e = .returned (.bool (noneB i)) ∧ Same w w' := by
  obtain ⟨op, a, b, imm⟩ := i
  have h0 := hi.o0
  simp only at h0
  unfold noneB inA
  simp only
  cases hm : mayB ⟨op, a, b, imm⟩ false
  · exact none_may op a b imm hi hm w
  by_cases c0 : op = 0
  · rw [show (!true || decide (1 ≤ op ∧ op ≤ 3) || decide (96 ≤ op)) = false by simp; omega]; exact none_no0 op a b imm hi hm c0 w
  by_cases c1 : op ≤ 3
  · rw [show (!true || decide (1 ≤ op ∧ op ≤ 3) || decide (96 ≤ op)) = true by simp; omega]; exact none_low op a b imm hi hm (by omega) c1 w
  by_cases c2 : 96 ≤ op
  · rw [show (!true || decide (1 ≤ op ∧ op ≤ 3) || decide (96 ≤ op)) = true by simp; omega]; exact none_high op a b imm hi hm c2 w
  · rw [show (!true || decide (1 ≤ op ∧ op ≤ 3) || decide (96 ≤ op)) = false by simp; omega]; exact none_no op a b imm hi hm (by omega) (by omega) w
set_option maxHeartbeats 2000000 in
set_option maxRecDepth 100000 in
theorem jump_c_true (s : St) (op a b imm n : Int) (_hs : s.Ok) (a0 : 0 ≤ a) (a1 : a < 8) (_n0 : 0 ≤ n) (_n1 : n < 4294967296) (c0 : 64 ≤ op) (c1 : op ≤ 71) (hh : holdsL (op - 64) s.ps = true) (w : World) :
    Calls Try.prog 41 #[.agg (stA s), .agg #[.int .u8 op, .int .u8 a, .int .u8 b, .int .i32 imm], .int .u32 n] w fun e w' => e = .returned (.agg (stA (jumpL s ⟨op, a, b, imm⟩ n))) ∧ Same w w' := by
  have h9 : a.toNat < 8 := by omega
  have HH := hidE (fun w => holds_any (op - 64) s.ps (by omega) (by omega) w)
  rw [hh] at HH
  have HP : Hid (jumpL s ⟨op, a, b, imm⟩ n = s.setPc ((n + imm) % 4294967296)) := hidE (by
    unfold jumpL
    simp only
    rw [if_neg (by omega), if_neg (by omega), if_neg (by omega), if_pos (by simp [hh])])
  clear hh
  have e72 : (op == 72) = false := by simp; omega
  have e73 : (op == 73) = false := by simp; omega
  have e74 : (op == 74) = false := by simp; omega
  go_enter Try.func41, Try.ntmps41
  go_wp2_with fail
  refine (HH.out _).mono ?_
  rintro e w1 ⟨rfl, hk⟩
  subst hk
  go_wp2_with fail
  refine (near_any _ _ _ _).mono ?_
  rintro e w2 ⟨rfl, hk⟩
  (obtain ⟨hc2, hf2, hr2, -, -, -⟩ := same_facts hk); have lt_w2_0 : w.heap.size < w2.heap.size := (by have hh := (hk).size; (try simp at hh); omega); have lt_w2_1 : w.heap.size + 1 < w2.heap.size := (by have hh := (hk).size; (try simp at hh); omega); have lt_w2_2 : w.heap.size + 1 + 1 < w2.heap.size := (by have hh := (hk).size; (try simp at hh); omega); have lt_w2_3 : w.heap.size + 1 + 1 + 1 < w2.heap.size := (by have hh := (hk).size; (try simp at hh); omega); have lt1_w2_0 : w.heap.size < w2.heap.size + 1 := (by omega); have lt2_w2_0 : w.heap.size < w2.heap.size + 1 + 1 := (by omega); have lt1_w2_1 : w.heap.size + 1 < w2.heap.size + 1 := (by omega); have lt2_w2_1 : w.heap.size + 1 < w2.heap.size + 1 + 1 := (by omega); have lt1_w2_2 : w.heap.size + 1 + 1 < w2.heap.size + 1 := (by omega); have lt2_w2_2 : w.heap.size + 1 + 1 < w2.heap.size + 1 + 1 := (by omega); have lt1_w2_3 : w.heap.size + 1 + 1 + 1 < w2.heap.size + 1 := (by omega); have lt2_w2_3 : w.heap.size + 1 + 1 + 1 < w2.heap.size + 1 + 1 := (by omega); have rw_w2_0 := (hr2 (w.heap.size) (by (try simp); (try omega))).trans (show rowAt _ (w.heap.size) = _ by go_simp; rfl); have rw_w2_1 := (hr2 (w.heap.size + 1) (by (try simp); (try omega))).trans (show rowAt _ (w.heap.size + 1) = _ by go_simp; rfl); have rw_w2_2 := (hr2 (w.heap.size + 1 + 1) (by (try simp); (try omega))).trans (show rowAt _ (w.heap.size + 1 + 1) = _ by go_simp; rfl); have rw_w2_3 := (hr2 (w.heap.size + 1 + 1 + 1) (by (try simp); (try omega))).trans (show rowAt _ (w.heap.size + 1 + 1 + 1) = _ by go_simp; rfl); have HK2 := hidE hk; clear hk
  go_wp2
  refine post_row rfl Try.underlying25 rfl infoS rfl rfl (by go_simp; rfl) (sa_size _) ⟨?_, ?_⟩
  · first | (rw [HP.out]; done) | (rw [HP.out]; rfl)
  · (repeat (first | with_reducible exact Keeps.refl _ _ | (with_reducible refine Keeps.drew ?_) | (with_reducible refine Keeps.alloc ?_ _) | (with_reducible refine Keeps.setRow ?_ (fun h => absurd h (by omega)) _) | (with_reducible refine Keeps.setCell ?_ (fun h => absurd h (by simp only []; omega)) _) | (with_reducible refine Keeps.trans ?_ HK8.out) | (with_reducible refine same_then ?_ HK8.out (fun k hk => by omega)) | (with_reducible refine Keeps.trans ?_ HK7.out) | (with_reducible refine same_then ?_ HK7.out (fun k hk => by omega)) | (with_reducible refine Keeps.trans ?_ HK6.out) | (with_reducible refine same_then ?_ HK6.out (fun k hk => by omega)) | (with_reducible refine Keeps.trans ?_ HK5.out) | (with_reducible refine same_then ?_ HK5.out (fun k hk => by omega)) | (with_reducible refine Keeps.trans ?_ HK4.out) | (with_reducible refine same_then ?_ HK4.out (fun k hk => by omega)) | (with_reducible refine Keeps.trans ?_ HK3.out) | (with_reducible refine same_then ?_ HK3.out (fun k hk => by omega)) | (with_reducible refine Keeps.trans ?_ HK2.out) | (with_reducible refine same_then ?_ HK2.out (fun k hk => by omega)) | (with_reducible refine Keeps.trans ?_ HK1.out) | (with_reducible refine same_then ?_ HK1.out (fun k hk => by omega))))
set_option maxHeartbeats 2000000 in
set_option maxRecDepth 100000 in
theorem jump_c_false (s : St) (op a b imm n : Int) (_hs : s.Ok) (a0 : 0 ≤ a) (a1 : a < 8) (_n0 : 0 ≤ n) (_n1 : n < 4294967296) (c0 : 64 ≤ op) (c1 : op ≤ 71) (hh : holdsL (op - 64) s.ps = false) (w : World) :
    Calls Try.prog 41 #[.agg (stA s), .agg #[.int .u8 op, .int .u8 a, .int .u8 b, .int .i32 imm], .int .u32 n] w fun e w' => e = .returned (.agg (stA (jumpL s ⟨op, a, b, imm⟩ n))) ∧ Same w w' := by
  have h9 : a.toNat < 8 := by omega
  have HH := hidE (fun w => holds_any (op - 64) s.ps (by omega) (by omega) w)
  rw [hh] at HH
  have HP : Hid (jumpL s ⟨op, a, b, imm⟩ n = s.setPc n) := hidE (by
    unfold jumpL
    simp only
    rw [if_neg (by omega), if_neg (by omega), if_neg (by omega), if_neg (by simp [hh])])
  clear hh
  have e72 : (op == 72) = false := by simp; omega
  have e73 : (op == 73) = false := by simp; omega
  have e74 : (op == 74) = false := by simp; omega
  go_enter Try.func41, Try.ntmps41
  go_wp2_with fail
  refine (HH.out _).mono ?_
  rintro e w1 ⟨rfl, hk⟩
  subst hk
  go_wp2_with fail
  refine post_row rfl Try.underlying25 rfl infoS rfl rfl (by go_simp; rfl) (sa_size _) ⟨?_, ?_⟩
  · first | (rw [HP.out]; done) | (rw [HP.out]; rfl)
  · (repeat (first | with_reducible exact Keeps.refl _ _ | (with_reducible refine Keeps.drew ?_) | (with_reducible refine Keeps.alloc ?_ _) | (with_reducible refine Keeps.setRow ?_ (fun h => absurd h (by omega)) _) | (with_reducible refine Keeps.setCell ?_ (fun h => absurd h (by simp only []; omega)) _) | (with_reducible refine Keeps.trans ?_ HK8.out) | (with_reducible refine same_then ?_ HK8.out (fun k hk => by omega)) | (with_reducible refine Keeps.trans ?_ HK7.out) | (with_reducible refine same_then ?_ HK7.out (fun k hk => by omega)) | (with_reducible refine Keeps.trans ?_ HK6.out) | (with_reducible refine same_then ?_ HK6.out (fun k hk => by omega)) | (with_reducible refine Keeps.trans ?_ HK5.out) | (with_reducible refine same_then ?_ HK5.out (fun k hk => by omega)) | (with_reducible refine Keeps.trans ?_ HK4.out) | (with_reducible refine same_then ?_ HK4.out (fun k hk => by omega)) | (with_reducible refine Keeps.trans ?_ HK3.out) | (with_reducible refine same_then ?_ HK3.out (fun k hk => by omega)) | (with_reducible refine Keeps.trans ?_ HK2.out) | (with_reducible refine same_then ?_ HK2.out (fun k hk => by omega)) | (with_reducible refine Keeps.trans ?_ HK1.out) | (with_reducible refine same_then ?_ HK1.out (fun k hk => by omega))))
set_option maxHeartbeats 2000000 in
set_option maxRecDepth 100000 in
theorem jump_72 (s : St) (a b imm n : Int) (_hs : s.Ok) (a0 : 0 ≤ a) (a1 : a < 8) (_n0 : 0 ≤ n) (_n1 : n < 4294967296)  (w : World) :
    Calls Try.prog 41 #[.agg (stA s), .agg #[.int .u8 72, .int .u8 a, .int .u8 b, .int .i32 imm], .int .u32 n] w fun e w' => e = .returned (.agg (stA (jumpL s ⟨72, a, b, imm⟩ n))) ∧ Same w w' := by
  have h9 : a.toNat < 8 := by omega
  go_enter Try.func41, Try.ntmps41
  go_wp2_with fail
  refine (near_any _ _ _ _).mono ?_
  rintro e w2 ⟨rfl, hk⟩
  (obtain ⟨hc2, hf2, hr2, -, -, -⟩ := same_facts hk); have lt_w2_0 : w.heap.size < w2.heap.size := (by have hh := (hk).size; (try simp at hh); omega); have lt_w2_1 : w.heap.size + 1 < w2.heap.size := (by have hh := (hk).size; (try simp at hh); omega); have lt_w2_2 : w.heap.size + 1 + 1 < w2.heap.size := (by have hh := (hk).size; (try simp at hh); omega); have lt_w2_3 : w.heap.size + 1 + 1 + 1 < w2.heap.size := (by have hh := (hk).size; (try simp at hh); omega); have lt1_w2_0 : w.heap.size < w2.heap.size + 1 := (by omega); have lt2_w2_0 : w.heap.size < w2.heap.size + 1 + 1 := (by omega); have lt1_w2_1 : w.heap.size + 1 < w2.heap.size + 1 := (by omega); have lt2_w2_1 : w.heap.size + 1 < w2.heap.size + 1 + 1 := (by omega); have lt1_w2_2 : w.heap.size + 1 + 1 < w2.heap.size + 1 := (by omega); have lt2_w2_2 : w.heap.size + 1 + 1 < w2.heap.size + 1 + 1 := (by omega); have lt1_w2_3 : w.heap.size + 1 + 1 + 1 < w2.heap.size + 1 := (by omega); have lt2_w2_3 : w.heap.size + 1 + 1 + 1 < w2.heap.size + 1 + 1 := (by omega); have rw_w2_0 := (hr2 (w.heap.size) (by (try simp); (try omega))).trans (show rowAt _ (w.heap.size) = _ by go_simp; rfl); have rw_w2_1 := (hr2 (w.heap.size + 1) (by (try simp); (try omega))).trans (show rowAt _ (w.heap.size + 1) = _ by go_simp; rfl); have rw_w2_2 := (hr2 (w.heap.size + 1 + 1) (by (try simp); (try omega))).trans (show rowAt _ (w.heap.size + 1 + 1) = _ by go_simp; rfl); have rw_w2_3 := (hr2 (w.heap.size + 1 + 1 + 1) (by (try simp); (try omega))).trans (show rowAt _ (w.heap.size + 1 + 1 + 1) = _ by go_simp; rfl); have HK2 := hidE hk; clear hk
  go_wp2
  refine post_row rfl Try.underlying25 rfl infoS rfl rfl (by go_simp; rfl) (sa_size _) ⟨?_, ?_⟩
  · rfl
  · (repeat (first | with_reducible exact Keeps.refl _ _ | (with_reducible refine Keeps.drew ?_) | (with_reducible refine Keeps.alloc ?_ _) | (with_reducible refine Keeps.setRow ?_ (fun h => absurd h (by omega)) _) | (with_reducible refine Keeps.setCell ?_ (fun h => absurd h (by simp only []; omega)) _) | (with_reducible refine Keeps.trans ?_ HK8.out) | (with_reducible refine same_then ?_ HK8.out (fun k hk => by omega)) | (with_reducible refine Keeps.trans ?_ HK7.out) | (with_reducible refine same_then ?_ HK7.out (fun k hk => by omega)) | (with_reducible refine Keeps.trans ?_ HK6.out) | (with_reducible refine same_then ?_ HK6.out (fun k hk => by omega)) | (with_reducible refine Keeps.trans ?_ HK5.out) | (with_reducible refine same_then ?_ HK5.out (fun k hk => by omega)) | (with_reducible refine Keeps.trans ?_ HK4.out) | (with_reducible refine same_then ?_ HK4.out (fun k hk => by omega)) | (with_reducible refine Keeps.trans ?_ HK3.out) | (with_reducible refine same_then ?_ HK3.out (fun k hk => by omega)) | (with_reducible refine Keeps.trans ?_ HK2.out) | (with_reducible refine same_then ?_ HK2.out (fun k hk => by omega)) | (with_reducible refine Keeps.trans ?_ HK1.out) | (with_reducible refine same_then ?_ HK1.out (fun k hk => by omega))))
set_option maxHeartbeats 2000000 in
set_option maxRecDepth 100000 in
theorem jump_73 (s : St) (a b imm n : Int) (_hs : s.Ok) (a0 : 0 ≤ a) (a1 : a < 8) (_n0 : 0 ≤ n) (_n1 : n < 4294967296)  (w : World) :
    Calls Try.prog 41 #[.agg (stA s), .agg #[.int .u8 73, .int .u8 a, .int .u8 b, .int .i32 imm], .int .u32 n] w fun e w' => e = .returned (.agg (stA (jumpL s ⟨73, a, b, imm⟩ n))) ∧ Same w w' := by
  have h9 : a.toNat < 8 := by omega
  go_enter Try.func41, Try.ntmps41
  go_wp2_with fail
  refine (far_any _ _ _ a0 a1).mono ?_
  rintro e w2 ⟨rfl, hk⟩
  (obtain ⟨hc2, hf2, hr2, -, -, -⟩ := same_facts hk); have lt_w2_0 : w.heap.size < w2.heap.size := (by have hh := (hk).size; (try simp at hh); omega); have lt_w2_1 : w.heap.size + 1 < w2.heap.size := (by have hh := (hk).size; (try simp at hh); omega); have lt_w2_2 : w.heap.size + 1 + 1 < w2.heap.size := (by have hh := (hk).size; (try simp at hh); omega); have lt_w2_3 : w.heap.size + 1 + 1 + 1 < w2.heap.size := (by have hh := (hk).size; (try simp at hh); omega); have lt1_w2_0 : w.heap.size < w2.heap.size + 1 := (by omega); have lt2_w2_0 : w.heap.size < w2.heap.size + 1 + 1 := (by omega); have lt1_w2_1 : w.heap.size + 1 < w2.heap.size + 1 := (by omega); have lt2_w2_1 : w.heap.size + 1 < w2.heap.size + 1 + 1 := (by omega); have lt1_w2_2 : w.heap.size + 1 + 1 < w2.heap.size + 1 := (by omega); have lt2_w2_2 : w.heap.size + 1 + 1 < w2.heap.size + 1 + 1 := (by omega); have lt1_w2_3 : w.heap.size + 1 + 1 + 1 < w2.heap.size + 1 := (by omega); have lt2_w2_3 : w.heap.size + 1 + 1 + 1 < w2.heap.size + 1 + 1 := (by omega); have rw_w2_0 := (hr2 (w.heap.size) (by (try simp); (try omega))).trans (show rowAt _ (w.heap.size) = _ by go_simp; rfl); have rw_w2_1 := (hr2 (w.heap.size + 1) (by (try simp); (try omega))).trans (show rowAt _ (w.heap.size + 1) = _ by go_simp; rfl); have rw_w2_2 := (hr2 (w.heap.size + 1 + 1) (by (try simp); (try omega))).trans (show rowAt _ (w.heap.size + 1 + 1) = _ by go_simp; rfl); have rw_w2_3 := (hr2 (w.heap.size + 1 + 1 + 1) (by (try simp); (try omega))).trans (show rowAt _ (w.heap.size + 1 + 1 + 1) = _ by go_simp; rfl); have HK2 := hidE hk; clear hk
  go_wp2
  refine post_row rfl Try.underlying25 rfl infoS rfl rfl (by go_simp; rfl) (sa_size _) ⟨?_, ?_⟩
  · rfl
  · (repeat (first | with_reducible exact Keeps.refl _ _ | (with_reducible refine Keeps.drew ?_) | (with_reducible refine Keeps.alloc ?_ _) | (with_reducible refine Keeps.setRow ?_ (fun h => absurd h (by omega)) _) | (with_reducible refine Keeps.setCell ?_ (fun h => absurd h (by simp only []; omega)) _) | (with_reducible refine Keeps.trans ?_ HK8.out) | (with_reducible refine same_then ?_ HK8.out (fun k hk => by omega)) | (with_reducible refine Keeps.trans ?_ HK7.out) | (with_reducible refine same_then ?_ HK7.out (fun k hk => by omega)) | (with_reducible refine Keeps.trans ?_ HK6.out) | (with_reducible refine same_then ?_ HK6.out (fun k hk => by omega)) | (with_reducible refine Keeps.trans ?_ HK5.out) | (with_reducible refine same_then ?_ HK5.out (fun k hk => by omega)) | (with_reducible refine Keeps.trans ?_ HK4.out) | (with_reducible refine same_then ?_ HK4.out (fun k hk => by omega)) | (with_reducible refine Keeps.trans ?_ HK3.out) | (with_reducible refine same_then ?_ HK3.out (fun k hk => by omega)) | (with_reducible refine Keeps.trans ?_ HK2.out) | (with_reducible refine same_then ?_ HK2.out (fun k hk => by omega)) | (with_reducible refine Keeps.trans ?_ HK1.out) | (with_reducible refine same_then ?_ HK1.out (fun k hk => by omega))))
set_option maxHeartbeats 2000000 in
set_option maxRecDepth 100000 in
theorem jump_74 (s : St) (a b imm n : Int) (_hs : s.Ok) (a0 : 0 ≤ a) (a1 : a < 8) (_n0 : 0 ≤ n) (_n1 : n < 4294967296)  (w : World) :
    Calls Try.prog 41 #[.agg (stA s), .agg #[.int .u8 74, .int .u8 a, .int .u8 b, .int .i32 imm], .int .u32 n] w fun e w' => e = .returned (.agg (stA (jumpL s ⟨74, a, b, imm⟩ n))) ∧ Same w w' := by
  have h9 : a.toNat < 8 := by omega
  go_enter Try.func41, Try.ntmps41
  go_wp2_with fail
  refine (far_any _ _ _ a0 a1).mono ?_
  rintro e w2 ⟨rfl, hk⟩
  (obtain ⟨hc2, hf2, hr2, -, -, -⟩ := same_facts hk); have lt_w2_0 : w.heap.size < w2.heap.size := (by have hh := (hk).size; (try simp at hh); omega); have lt_w2_1 : w.heap.size + 1 < w2.heap.size := (by have hh := (hk).size; (try simp at hh); omega); have lt_w2_2 : w.heap.size + 1 + 1 < w2.heap.size := (by have hh := (hk).size; (try simp at hh); omega); have lt_w2_3 : w.heap.size + 1 + 1 + 1 < w2.heap.size := (by have hh := (hk).size; (try simp at hh); omega); have lt1_w2_0 : w.heap.size < w2.heap.size + 1 := (by omega); have lt2_w2_0 : w.heap.size < w2.heap.size + 1 + 1 := (by omega); have lt1_w2_1 : w.heap.size + 1 < w2.heap.size + 1 := (by omega); have lt2_w2_1 : w.heap.size + 1 < w2.heap.size + 1 + 1 := (by omega); have lt1_w2_2 : w.heap.size + 1 + 1 < w2.heap.size + 1 := (by omega); have lt2_w2_2 : w.heap.size + 1 + 1 < w2.heap.size + 1 + 1 := (by omega); have lt1_w2_3 : w.heap.size + 1 + 1 + 1 < w2.heap.size + 1 := (by omega); have lt2_w2_3 : w.heap.size + 1 + 1 + 1 < w2.heap.size + 1 + 1 := (by omega); have rw_w2_0 := (hr2 (w.heap.size) (by (try simp); (try omega))).trans (show rowAt _ (w.heap.size) = _ by go_simp; rfl); have rw_w2_1 := (hr2 (w.heap.size + 1) (by (try simp); (try omega))).trans (show rowAt _ (w.heap.size + 1) = _ by go_simp; rfl); have rw_w2_2 := (hr2 (w.heap.size + 1 + 1) (by (try simp); (try omega))).trans (show rowAt _ (w.heap.size + 1 + 1) = _ by go_simp; rfl); have rw_w2_3 := (hr2 (w.heap.size + 1 + 1 + 1) (by (try simp); (try omega))).trans (show rowAt _ (w.heap.size + 1 + 1 + 1) = _ by go_simp; rfl); have HK2 := hidE hk; clear hk
  go_wp2
  refine post_row rfl Try.underlying25 rfl infoS rfl rfl (by go_simp; rfl) (sa_size _) ⟨?_, ?_⟩
  · rfl
  · (repeat (first | with_reducible exact Keeps.refl _ _ | (with_reducible refine Keeps.drew ?_) | (with_reducible refine Keeps.alloc ?_ _) | (with_reducible refine Keeps.setRow ?_ (fun h => absurd h (by omega)) _) | (with_reducible refine Keeps.setCell ?_ (fun h => absurd h (by simp only []; omega)) _) | (with_reducible refine Keeps.trans ?_ HK8.out) | (with_reducible refine same_then ?_ HK8.out (fun k hk => by omega)) | (with_reducible refine Keeps.trans ?_ HK7.out) | (with_reducible refine same_then ?_ HK7.out (fun k hk => by omega)) | (with_reducible refine Keeps.trans ?_ HK6.out) | (with_reducible refine same_then ?_ HK6.out (fun k hk => by omega)) | (with_reducible refine Keeps.trans ?_ HK5.out) | (with_reducible refine same_then ?_ HK5.out (fun k hk => by omega)) | (with_reducible refine Keeps.trans ?_ HK4.out) | (with_reducible refine same_then ?_ HK4.out (fun k hk => by omega)) | (with_reducible refine Keeps.trans ?_ HK3.out) | (with_reducible refine same_then ?_ HK3.out (fun k hk => by omega)) | (with_reducible refine Keeps.trans ?_ HK2.out) | (with_reducible refine same_then ?_ HK2.out (fun k hk => by omega)) | (with_reducible refine Keeps.trans ?_ HK1.out) | (with_reducible refine same_then ?_ HK1.out (fun k hk => by omega))))
end Go.Proofs.Ytdbfjgmehmbefaa
