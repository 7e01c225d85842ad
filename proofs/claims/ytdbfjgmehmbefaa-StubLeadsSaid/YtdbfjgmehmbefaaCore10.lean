/- Package core: Want and Do, for any instruction. -/
import Derived.Test.YtdbfjgmehmbefaaCoreW2
import Derived.Test.YtdbfjgmehmbefaaCore8
import Derived.Test.YtdbfjgmehmbefaaCore9
namespace Go.Proofs.Ytdbfjgmehmbefaa
open Go.RowKit
attribute [local go_sem ↓] x_ldS x_stS x_ldI x_stI x_ldA x_stA x_ldF x_stF
attribute [local go_sem] ne_s1 en_s1 ne_s2 en_s2 ne_s3 en_s3 ne_s4 en_s4 ne_s5 en_s5 ne_s6 en_s6 ne_s7 en_s7 ne_s8 en_s8 ne_s9 en_s9 ne_s10 en_s10 ne_s11 en_s11 lt_s2 lt_s3 lt_s4 lt_s5 lt_s6 lt_s7 lt_s8 lt_s9 lt_s10 lt_s11 rowAt_at rowAt_old rowAt_drew rowAt_drewN setRow_drew setRow_at setRow_old setCell_row setRow_setRow rowAt_setRow_eq rowAt_setRow_ne cell_setRow_eq cell_setRow_ne frozen_setRow_eq frozen_setRow_ne ones_lit oc_int oc_bool oc_str oc_ptr oc_sl oc_map oc_fn oc_nf oc_ni oc_if ld_S st_S ld_I st_I ld_A st_A ld_F st_F sa_size sa_one ac_size fl_size ac_one fl_one fl_c fl_a fg_c fg_a sa_pc sa_ps sg_pc sg_ps sa_r6 sa_r7 sg_r6 sg_r7 sa_r sg_r ss_pc ss_ps ss_r6 ss_r7 ss_r st0_eq

theorem may_regs {i : In} (h : mayB i false = true) : i.a < 8 ∧ i.b < 8 := by
  unfold mayB at h
  simp only [Bool.and_eq_true, decide_eq_true_eq] at h
  obtain ⟨-, -, ha, hb, -⟩ := fm_facts i.op false
  omega
set_option maxHeartbeats 2000000 in
set_option maxRecDepth 100000 in
theorem want_lo (s : St) (op a b imm : Int) (c0 : op < 48) (w : World) :
    Calls Try.prog 14 #[.agg (stA s), .agg #[.int .u8 op, .int .u8 a, .int .u8 b, .int .i32 imm]] w fun e w' => e = .returned (.tuple #[.agg (acA ac0), .agg (flA fl0)]) ∧ Same w w' := by
  go_enter Try.func14, Try.ntmps14
  go_wp2_with fail
  refine post_row2 rfl Try.underlying29 rfl infoA Try.underlying31 rfl infoF rfl rfl rfl (by go_simp; rfl) (by go_simp; rfl) rfl rfl ⟨rfl, ?_⟩
  (repeat (first | with_reducible exact Keeps.refl _ _ | (with_reducible refine Keeps.drew ?_) | (with_reducible refine Keeps.alloc ?_ _) | (with_reducible refine Keeps.setRow ?_ (fun h => absurd h (by omega)) _) | (with_reducible refine Keeps.setCell ?_ (fun h => absurd h (by simp only []; omega)) _) | (with_reducible refine Keeps.trans ?_ HK8.out) | (with_reducible refine same_then ?_ HK8.out (fun k hk => by omega)) | (with_reducible refine Keeps.trans ?_ HK7.out) | (with_reducible refine same_then ?_ HK7.out (fun k hk => by omega)) | (with_reducible refine Keeps.trans ?_ HK6.out) | (with_reducible refine same_then ?_ HK6.out (fun k hk => by omega)) | (with_reducible refine Keeps.trans ?_ HK5.out) | (with_reducible refine same_then ?_ HK5.out (fun k hk => by omega)) | (with_reducible refine Keeps.trans ?_ HK4.out) | (with_reducible refine same_then ?_ HK4.out (fun k hk => by omega)) | (with_reducible refine Keeps.trans ?_ HK3.out) | (with_reducible refine same_then ?_ HK3.out (fun k hk => by omega)) | (with_reducible refine Keeps.trans ?_ HK2.out) | (with_reducible refine same_then ?_ HK2.out (fun k hk => by omega)) | (with_reducible refine Keeps.trans ?_ HK1.out) | (with_reducible refine same_then ?_ HK1.out (fun k hk => by omega))))
set_option maxHeartbeats 2000000 in
set_option maxRecDepth 100000 in
theorem want_hi (s : St) (op a b imm : Int) (c0 : 58 < op) (w : World) :
    Calls Try.prog 14 #[.agg (stA s), .agg #[.int .u8 op, .int .u8 a, .int .u8 b, .int .i32 imm]] w fun e w' => e = .returned (.tuple #[.agg (acA ac0), .agg (flA fl0)]) ∧ Same w w' := by
  have c9 : 48 ≤ op := by omega
  go_enter Try.func14, Try.ntmps14
  go_wp2_with fail
  refine post_row2 rfl Try.underlying29 rfl infoA Try.underlying31 rfl infoF rfl rfl rfl (by go_simp; rfl) (by go_simp; rfl) rfl rfl ⟨rfl, ?_⟩
  (repeat (first | with_reducible exact Keeps.refl _ _ | (with_reducible refine Keeps.drew ?_) | (with_reducible refine Keeps.alloc ?_ _) | (with_reducible refine Keeps.setRow ?_ (fun h => absurd h (by omega)) _) | (with_reducible refine Keeps.setCell ?_ (fun h => absurd h (by simp only []; omega)) _) | (with_reducible refine Keeps.trans ?_ HK8.out) | (with_reducible refine same_then ?_ HK8.out (fun k hk => by omega)) | (with_reducible refine Keeps.trans ?_ HK7.out) | (with_reducible refine same_then ?_ HK7.out (fun k hk => by omega)) | (with_reducible refine Keeps.trans ?_ HK6.out) | (with_reducible refine same_then ?_ HK6.out (fun k hk => by omega)) | (with_reducible refine Keeps.trans ?_ HK5.out) | (with_reducible refine same_then ?_ HK5.out (fun k hk => by omega)) | (with_reducible refine Keeps.trans ?_ HK4.out) | (with_reducible refine same_then ?_ HK4.out (fun k hk => by omega)) | (with_reducible refine Keeps.trans ?_ HK3.out) | (with_reducible refine same_then ?_ HK3.out (fun k hk => by omega)) | (with_reducible refine Keeps.trans ?_ HK2.out) | (with_reducible refine same_then ?_ HK2.out (fun k hk => by omega)) | (with_reducible refine Keeps.trans ?_ HK1.out) | (with_reducible refine same_then ?_ HK1.out (fun k hk => by omega))))
set_option maxHeartbeats 2000000 in
set_option maxRecDepth 100000 in
theorem want_may (s : St) (op a b imm : Int) (hi : (⟨op, a, b, imm⟩ : In).Ok) (hm : mayB ⟨op, a, b, imm⟩ false = false) (c0 : 48 ≤ op) (c1 : op ≤ 58) (w : World) :
    Calls Try.prog 14 #[.agg (stA s), .agg #[.int .u8 op, .int .u8 a, .int .u8 b, .int .i32 imm]] w fun e w' => e = .returned (.tuple #[.agg (acA ac0), .agg (flA fl0)]) ∧ Same w w' := by
  have HM : Hid (∀ w, _) := hidE (fun w => may_any _ false hi w)
  rw [hm] at HM
  simp only [inA] at HM
  clear hm hi
  go_enter Try.func14, Try.ntmps14
  go_wp2_with fail
  refine (HM.out _).mono ?_
  rintro e w1 ⟨rfl, hk⟩
  (obtain ⟨hc1, hf1, hr1, -, -, -⟩ := same_facts hk); have lt_w1_0 : w.heap.size < w1.heap.size := (by have hh := (hk).size; (try simp at hh); omega); have lt_w1_1 : w.heap.size + 1 < w1.heap.size := (by have hh := (hk).size; (try simp at hh); omega); have lt_w1_2 : w.heap.size + 1 + 1 < w1.heap.size := (by have hh := (hk).size; (try simp at hh); omega); have lt_w1_3 : w.heap.size + 1 + 1 + 1 < w1.heap.size := (by have hh := (hk).size; (try simp at hh); omega); have lt1_w1_0 : w.heap.size < w1.heap.size + 1 := (by omega); have lt2_w1_0 : w.heap.size < w1.heap.size + 1 + 1 := (by omega); have lt1_w1_1 : w.heap.size + 1 < w1.heap.size + 1 := (by omega); have lt2_w1_1 : w.heap.size + 1 < w1.heap.size + 1 + 1 := (by omega); have lt1_w1_2 : w.heap.size + 1 + 1 < w1.heap.size + 1 := (by omega); have lt2_w1_2 : w.heap.size + 1 + 1 < w1.heap.size + 1 + 1 := (by omega); have lt1_w1_3 : w.heap.size + 1 + 1 + 1 < w1.heap.size + 1 := (by omega); have lt2_w1_3 : w.heap.size + 1 + 1 + 1 < w1.heap.size + 1 + 1 := (by omega); have rw_w1_0 := (hr1 (w.heap.size) (by (try simp); (try omega))).trans (show rowAt _ (w.heap.size) = _ by go_simp; rfl); have rw_w1_1 := (hr1 (w.heap.size + 1) (by (try simp); (try omega))).trans (show rowAt _ (w.heap.size + 1) = _ by go_simp; rfl); have rw_w1_2 := (hr1 (w.heap.size + 1 + 1) (by (try simp); (try omega))).trans (show rowAt _ (w.heap.size + 1 + 1) = _ by go_simp; rfl); have rw_w1_3 := (hr1 (w.heap.size + 1 + 1 + 1) (by (try simp); (try omega))).trans (show rowAt _ (w.heap.size + 1 + 1 + 1) = _ by go_simp; rfl); have HK1 := hidE hk; clear hk
  go_wp2
  refine post_row2 rfl Try.underlying29 rfl infoA Try.underlying31 rfl infoF rfl rfl rfl (by go_simp; rfl) (by go_simp; rfl) rfl rfl ⟨rfl, ?_⟩
  (repeat (first | with_reducible exact Keeps.refl _ _ | (with_reducible refine Keeps.drew ?_) | (with_reducible refine Keeps.alloc ?_ _) | (with_reducible refine Keeps.setRow ?_ (fun h => absurd h (by omega)) _) | (with_reducible refine Keeps.setCell ?_ (fun h => absurd h (by simp only []; omega)) _) | (with_reducible refine Keeps.trans ?_ HK8.out) | (with_reducible refine same_then ?_ HK8.out (fun k hk => by omega)) | (with_reducible refine Keeps.trans ?_ HK7.out) | (with_reducible refine same_then ?_ HK7.out (fun k hk => by omega)) | (with_reducible refine Keeps.trans ?_ HK6.out) | (with_reducible refine same_then ?_ HK6.out (fun k hk => by omega)) | (with_reducible refine Keeps.trans ?_ HK5.out) | (with_reducible refine same_then ?_ HK5.out (fun k hk => by omega)) | (with_reducible refine Keeps.trans ?_ HK4.out) | (with_reducible refine same_then ?_ HK4.out (fun k hk => by omega)) | (with_reducible refine Keeps.trans ?_ HK3.out) | (with_reducible refine same_then ?_ HK3.out (fun k hk => by omega)) | (with_reducible refine Keeps.trans ?_ HK2.out) | (with_reducible refine same_then ?_ HK2.out (fun k hk => by omega)) | (with_reducible refine Keeps.trans ?_ HK1.out) | (with_reducible refine same_then ?_ HK1.out (fun k hk => by omega))))
theorem want_any (s : St) (i : In) (hs : s.Ok) (hi : i.Ok) (w : World) :
    Calls Try.prog 14 #[.agg (stA s), .agg (inA i)] w fun e w' => e = .returned (.tuple #[.agg (acA (wantL s i).1), .agg (flA (wantL s i).2)]) ∧ Same w w' := by
  obtain ⟨op, a, b, imm⟩ := i
  have a0 := hi.a0
  have b0 := hi.b0
  simp only at a0 b0
  unfold wantL inA
  simp only
  by_cases c0 : op < 48
  · rw [show memB op = false by simp [memB]; omega]; exact want_lo s op a b imm c0 w
  by_cases c1 : 58 < op
  · rw [show memB op = false by simp [memB]; omega]; exact want_hi s op a b imm c1 w
  rw [show memB op = true by simp [memB]; omega]
  cases hm : mayB ⟨op, a, b, imm⟩ false
  · exact want_may s op a b imm hi hm (by omega) (by omega) w
  obtain ⟨a1, b1⟩ := may_regs hm
  simp only at a1 b1
  simp only [Bool.and_self, if_true]
  rcases (show op = 48 ∨ op = 49 ∨ op = 50 ∨ op = 51 ∨ op = 52 ∨ op = 53 ∨ op = 54 ∨ op = 55 ∨ op = 56 ∨ op = 57 ∨ op = 58 by omega) with rfl | rfl | rfl | rfl | rfl | rfl | rfl | rfl | rfl | rfl | rfl
  · by_cases he : ((s.R b.toNat + imm) % 4294967296) % 4 = 0
    · exact want_48 s a b imm hs b0 b1 a0 a1 hi hm he w
    · exact want_48_no s a b imm hs b0 b1 a0 a1 hi hm he w
  · by_cases he : ((s.R b.toNat + imm) % 4294967296) % 4 = 0
    · exact want_49 s a b imm hs b0 b1 a0 a1 hi hm he w
    · exact want_49_no s a b imm hs b0 b1 a0 a1 hi hm he w
  · exact want_50 s a b imm hs b0 b1 a0 a1 hi hm w
  · exact want_51 s a b imm hs b0 b1 a0 a1 hi hm w
  · by_cases he : ((s.R b.toNat + imm) % 4294967296) % 2 = 0
    · exact want_52 s a b imm hs b0 b1 a0 a1 hi hm he w
    · exact want_52_no s a b imm hs b0 b1 a0 a1 hi hm he w
  · by_cases he : ((s.R b.toNat + imm) % 4294967296) % 2 = 0
    · exact want_53 s a b imm hs b0 b1 a0 a1 hi hm he w
    · exact want_53_no s a b imm hs b0 b1 a0 a1 hi hm he w
  · exact want_54 s a b imm hs b0 b1 a0 a1 hi hm w
  · by_cases he : ((s.R b.toNat + imm) % 4294967296) % 2 = 0
    · exact want_55 s a b imm hs b0 b1 a0 a1 hi hm he w
    · exact want_55_no s a b imm hs b0 b1 a0 a1 hi hm he w
  · by_cases he : ((s.R 7 - 4) % 4294967296) % 4 = 0
    · exact want_56 s a b imm hs b0 b1 a0 a1 hi hm he w
    · exact want_56_no s a b imm hs b0 b1 a0 a1 hi hm he w
  · by_cases he : (s.R 7) % 4 = 0
    · exact want_57 s a b imm hs b0 b1 a0 a1 hi hm he w
    · exact want_57_no s a b imm hs b0 b1 a0 a1 hi hm he w
  · by_cases he : ((s.R b.toNat + imm) % 4294967296) % 4 = 0
    · exact want_58 s a b imm hs b0 b1 a0 a1 hi hm he w
    · exact want_58_no s a b imm hs b0 b1 a0 a1 hi hm he w
set_option maxHeartbeats 2000000 in
set_option maxRecDepth 100000 in
theorem do_none (s : St) (op a b imm v : Int) (_hs : s.Ok) (hi : (⟨op, a, b, imm⟩ : In).Ok) (_v0 : 0 ≤ v) (_v1 : v < 4294967296) (hn : noneB ⟨op, a, b, imm⟩ = true) (w : World) :
    Calls Try.prog 17 #[.agg (stA s), .agg #[.int .u8 op, .int .u8 a, .int .u8 b, .int .i32 imm], .int .u32 v] w fun e w' => e = .returned (.tuple #[.agg (stA (doL s ⟨op, a, b, imm⟩ v).1), .agg (flA (doL s ⟨op, a, b, imm⟩ v).2)]) ∧ Same w w' := by
  have HP : Hid (doL s ⟨op, a, b, imm⟩ v = (s, ⟨1, s.pc⟩)) := hidE (by unfold doL; rw [if_pos hn])
  have HN : Hid (∀ w, _) := hidE (fun w => none_any _ hi w)
  rw [hn] at HN
  simp only [inA] at HN
  clear hn hi
  go_enter Try.func17, Try.ntmps17
  go_wp2_with fail
  refine (HN.out _).mono ?_
  rintro e w1 ⟨rfl, hk⟩
  (obtain ⟨hc1, hf1, hr1, -, -, -⟩ := same_facts hk); have lt_w1_0 : w.heap.size < w1.heap.size := (by have hh := (hk).size; (try simp at hh); omega); have lt_w1_1 : w.heap.size + 1 < w1.heap.size := (by have hh := (hk).size; (try simp at hh); omega); have lt_w1_2 : w.heap.size + 1 + 1 < w1.heap.size := (by have hh := (hk).size; (try simp at hh); omega); have lt_w1_3 : w.heap.size + 1 + 1 + 1 < w1.heap.size := (by have hh := (hk).size; (try simp at hh); omega); have lt1_w1_0 : w.heap.size < w1.heap.size + 1 := (by omega); have lt2_w1_0 : w.heap.size < w1.heap.size + 1 + 1 := (by omega); have lt1_w1_1 : w.heap.size + 1 < w1.heap.size + 1 := (by omega); have lt2_w1_1 : w.heap.size + 1 < w1.heap.size + 1 + 1 := (by omega); have lt1_w1_2 : w.heap.size + 1 + 1 < w1.heap.size + 1 := (by omega); have lt2_w1_2 : w.heap.size + 1 + 1 < w1.heap.size + 1 + 1 := (by omega); have lt1_w1_3 : w.heap.size + 1 + 1 + 1 < w1.heap.size + 1 := (by omega); have lt2_w1_3 : w.heap.size + 1 + 1 + 1 < w1.heap.size + 1 + 1 := (by omega); have rw_w1_0 := (hr1 (w.heap.size) (by (try simp); (try omega))).trans (show rowAt _ (w.heap.size) = _ by go_simp; rfl); have rw_w1_1 := (hr1 (w.heap.size + 1) (by (try simp); (try omega))).trans (show rowAt _ (w.heap.size + 1) = _ by go_simp; rfl); have rw_w1_2 := (hr1 (w.heap.size + 1 + 1) (by (try simp); (try omega))).trans (show rowAt _ (w.heap.size + 1 + 1) = _ by go_simp; rfl); have rw_w1_3 := (hr1 (w.heap.size + 1 + 1 + 1) (by (try simp); (try omega))).trans (show rowAt _ (w.heap.size + 1 + 1 + 1) = _ by go_simp; rfl); have HK1 := hidE hk; clear hk
  go_wp2_with fail
  refine wp_region_ra [0, 1, 2, 3] [4, 5] 1 (SR _ (w.heap.size + 1 + 1) 18) (by kernel_rfl) (by kernel_rfl) SR.same (SR.init (by go_simp; first | done | rfl)) ?_
  simp only [opsOf, List.filterMap_cons, List.filterMap_nil, List.getElem?_cons_zero, List.getElem?_cons_succ]
  repeat (refine seqV_run (v := ?_) rfl (fun u hu => ?_) ?_; rotate_left; (focus (obtain ⟨hc, hf, hr⟩ := SR.facts hu; clear hu; go_simp; first | done | with_reducible rfl)); (try simp only [Act.put, List.setIfInBounds_toArray, List.set_cons_zero, List.set_cons_succ]))
  refine seqV_nil ?_
  refine tailR_row (A := stA s) rfl (sa_size _) (fun u hu => ?_) ?_
  · have z := hu.z
    clear hu
    go_simp
  simp only [Act.put]
  refine tailR_zero fun u9 hu hrow => ?_
  obtain ⟨hc9, hf9, hr9⟩ := SR.facts hu
  have lt_u9_0 : w.heap.size < u9.heap.size := (by have hh := (hu.k).size; (try simp at hh); omega); have lt_u9_1 : w.heap.size + 1 < u9.heap.size := (by have hh := (hu.k).size; (try simp at hh); omega); have lt_u9_2 : w.heap.size + 1 + 1 < u9.heap.size := (by have hh := (hu.k).size; (try simp at hh); omega); have lt_u9_3 : w.heap.size + 1 + 1 + 1 < u9.heap.size := (by have hh := (hu.k).size; (try simp at hh); omega); have lt1_u9_0 : w.heap.size < u9.heap.size + 1 := (by omega); have lt2_u9_0 : w.heap.size < u9.heap.size + 1 + 1 := (by omega); have lt1_u9_1 : w.heap.size + 1 < u9.heap.size + 1 := (by omega); have lt2_u9_1 : w.heap.size + 1 < u9.heap.size + 1 + 1 := (by omega); have lt1_u9_2 : w.heap.size + 1 + 1 < u9.heap.size + 1 := (by omega); have lt2_u9_2 : w.heap.size + 1 + 1 < u9.heap.size + 1 + 1 := (by omega); have lt1_u9_3 : w.heap.size + 1 + 1 + 1 < u9.heap.size + 1 := (by omega); have lt2_u9_3 : w.heap.size + 1 + 1 + 1 < u9.heap.size + 1 + 1 := (by omega)
  have rw_u9_3 := (hr9 (w.heap.size + 1 + 1 + 1) (by (try simp); (try omega)) (by (try simp); (try omega))).trans (show rowAt _ (w.heap.size + 1 + 1 + 1) = _ by go_simp; rfl)
  have HK4 := hidE hu.k
  clear hu
  go_wp2
  refine post_row2 rfl Try.underlying25 rfl infoS Try.underlying31 rfl infoF rfl rfl rfl (by go_simp; rfl) (by go_simp; rfl) (sa_size _) rfl ⟨by rw [HP.out]; first | done | rfl, ?_⟩
  (repeat (first | with_reducible exact Keeps.refl _ _ | (with_reducible refine Keeps.drew ?_) | (with_reducible refine Keeps.alloc ?_ _) | (with_reducible refine Keeps.setRow ?_ (fun h => absurd h (by omega)) _) | (with_reducible refine Keeps.setCell ?_ (fun h => absurd h (by simp only []; omega)) _) | (with_reducible refine Keeps.trans ?_ HK8.out) | (with_reducible refine same_then ?_ HK8.out (fun k hk => by omega)) | (with_reducible refine Keeps.trans ?_ HK7.out) | (with_reducible refine same_then ?_ HK7.out (fun k hk => by omega)) | (with_reducible refine Keeps.trans ?_ HK6.out) | (with_reducible refine same_then ?_ HK6.out (fun k hk => by omega)) | (with_reducible refine Keeps.trans ?_ HK5.out) | (with_reducible refine same_then ?_ HK5.out (fun k hk => by omega)) | (with_reducible refine Keeps.trans ?_ HK4.out) | (with_reducible refine same_then ?_ HK4.out (fun k hk => by omega)) | (with_reducible refine Keeps.trans ?_ HK3.out) | (with_reducible refine same_then ?_ HK3.out (fun k hk => by omega)) | (with_reducible refine Keeps.trans ?_ HK2.out) | (with_reducible refine same_then ?_ HK2.out (fun k hk => by omega)) | (with_reducible refine Keeps.trans ?_ HK1.out) | (with_reducible refine same_then ?_ HK1.out (fun k hk => by omega))))
set_option maxHeartbeats 2000000 in
set_option maxRecDepth 100000 in
theorem do_fault (s : St) (op a b imm v : Int) (hs : s.Ok) (hi : (⟨op, a, b, imm⟩ : In).Ok) (_v0 : 0 ≤ v) (_v1 : v < 4294967296) (hn : noneB ⟨op, a, b, imm⟩ = false) (hf : (wantL s ⟨op, a, b, imm⟩).2.c ≠ 0) (w : World) :
    Calls Try.prog 17 #[.agg (stA s), .agg #[.int .u8 op, .int .u8 a, .int .u8 b, .int .i32 imm], .int .u32 v] w fun e w' => e = .returned (.tuple #[.agg (stA (doL s ⟨op, a, b, imm⟩ v).1), .agg (flA (doL s ⟨op, a, b, imm⟩ v).2)]) ∧ Same w w' := by
  have HP : Hid (doL s ⟨op, a, b, imm⟩ v = (s, (wantL s ⟨op, a, b, imm⟩).2)) := hidE (by unfold doL; simp only; rw [if_neg (by simp [hn]), if_pos hf])
  have HN : Hid (∀ w, _) := hidE (fun w => none_any _ hi w)
  rw [hn] at HN
  simp only [inA] at HN
  have HW : Hid (∀ w, _) := hidE (fun w => want_any s _ hs hi w)
  simp only [inA] at HW
  generalize wantL s ⟨op, a, b, imm⟩ = W at HW HP hf
  obtain ⟨W1, W2⟩ := W
  simp only at hf HW HP
  have hx : (W2.c != 0) = true := bne_iff_ne.mpr hf
  clear hn hi hf
  go_enter Try.func17, Try.ntmps17
  go_wp2_with fail
  refine (HN.out _).mono ?_
  rintro e w1 ⟨rfl, hk⟩
  (obtain ⟨hc1, hf1, hr1, -, -, -⟩ := same_facts hk); have lt_w1_0 : w.heap.size < w1.heap.size := (by have hh := (hk).size; (try simp at hh); omega); have lt_w1_1 : w.heap.size + 1 < w1.heap.size := (by have hh := (hk).size; (try simp at hh); omega); have lt_w1_2 : w.heap.size + 1 + 1 < w1.heap.size := (by have hh := (hk).size; (try simp at hh); omega); have lt_w1_3 : w.heap.size + 1 + 1 + 1 < w1.heap.size := (by have hh := (hk).size; (try simp at hh); omega); have lt1_w1_0 : w.heap.size < w1.heap.size + 1 := (by omega); have lt2_w1_0 : w.heap.size < w1.heap.size + 1 + 1 := (by omega); have lt1_w1_1 : w.heap.size + 1 < w1.heap.size + 1 := (by omega); have lt2_w1_1 : w.heap.size + 1 < w1.heap.size + 1 + 1 := (by omega); have lt1_w1_2 : w.heap.size + 1 + 1 < w1.heap.size + 1 := (by omega); have lt2_w1_2 : w.heap.size + 1 + 1 < w1.heap.size + 1 + 1 := (by omega); have lt1_w1_3 : w.heap.size + 1 + 1 + 1 < w1.heap.size + 1 := (by omega); have lt2_w1_3 : w.heap.size + 1 + 1 + 1 < w1.heap.size + 1 + 1 := (by omega); have rw_w1_0 := (hr1 (w.heap.size) (by (try simp); (try omega))).trans (show rowAt _ (w.heap.size) = _ by go_simp; rfl); have rw_w1_1 := (hr1 (w.heap.size + 1) (by (try simp); (try omega))).trans (show rowAt _ (w.heap.size + 1) = _ by go_simp; rfl); have rw_w1_2 := (hr1 (w.heap.size + 1 + 1) (by (try simp); (try omega))).trans (show rowAt _ (w.heap.size + 1 + 1) = _ by go_simp; rfl); have rw_w1_3 := (hr1 (w.heap.size + 1 + 1 + 1) (by (try simp); (try omega))).trans (show rowAt _ (w.heap.size + 1 + 1 + 1) = _ by go_simp; rfl); have HK1 := hidE hk; clear hk
  go_wp2_with fail
  refine (HW.out _).mono ?_
  rintro e w2 ⟨rfl, hk⟩
  (obtain ⟨hc2, hf2, hr2, -, -, -⟩ := same_facts hk); have lt_w2_0 : w.heap.size < w2.heap.size := (by have hh := (hk).size; (try simp at hh); omega); have lt_w2_1 : w.heap.size + 1 < w2.heap.size := (by have hh := (hk).size; (try simp at hh); omega); have lt_w2_2 : w.heap.size + 1 + 1 < w2.heap.size := (by have hh := (hk).size; (try simp at hh); omega); have lt_w2_3 : w.heap.size + 1 + 1 + 1 < w2.heap.size := (by have hh := (hk).size; (try simp at hh); omega); have lt1_w2_0 : w.heap.size < w2.heap.size + 1 := (by omega); have lt2_w2_0 : w.heap.size < w2.heap.size + 1 + 1 := (by omega); have lt1_w2_1 : w.heap.size + 1 < w2.heap.size + 1 := (by omega); have lt2_w2_1 : w.heap.size + 1 < w2.heap.size + 1 + 1 := (by omega); have lt1_w2_2 : w.heap.size + 1 + 1 < w2.heap.size + 1 := (by omega); have lt2_w2_2 : w.heap.size + 1 + 1 < w2.heap.size + 1 + 1 := (by omega); have lt1_w2_3 : w.heap.size + 1 + 1 + 1 < w2.heap.size + 1 := (by omega); have lt2_w2_3 : w.heap.size + 1 + 1 + 1 < w2.heap.size + 1 + 1 := (by omega); have rw_w2_0 := (hr2 (w.heap.size) (by (try simp); (try omega))).trans (show rowAt _ (w.heap.size) = _ by go_simp; rfl); have rw_w2_1 := (hr2 (w.heap.size + 1) (by (try simp); (try omega))).trans (show rowAt _ (w.heap.size + 1) = _ by go_simp; rfl); have rw_w2_2 := (hr2 (w.heap.size + 1 + 1) (by (try simp); (try omega))).trans (show rowAt _ (w.heap.size + 1 + 1) = _ by go_simp; rfl); have rw_w2_3 := (hr2 (w.heap.size + 1 + 1 + 1) (by (try simp); (try omega))).trans (show rowAt _ (w.heap.size + 1 + 1 + 1) = _ by go_simp; rfl); have HK2 := hidE hk; clear hk
  have nn_w2_0_0 : w.heap.size ≠ w2.heap.size := (by omega); have mm_w2_0_0 : w2.heap.size ≠ w.heap.size := (by omega); have nn_w2_1_0 : w.heap.size ≠ w2.heap.size + 1 := (by omega); have mm_w2_1_0 : w2.heap.size + 1 ≠ w.heap.size := (by omega); have nn_w2_0_1 : w.heap.size + 1 ≠ w2.heap.size := (by omega); have mm_w2_0_1 : w2.heap.size ≠ w.heap.size + 1 := (by omega); have nn_w2_1_1 : w.heap.size + 1 ≠ w2.heap.size + 1 := (by omega); have mm_w2_1_1 : w2.heap.size + 1 ≠ w.heap.size + 1 := (by omega); have nn_w2_0_2 : w.heap.size + 1 + 1 ≠ w2.heap.size := (by omega); have mm_w2_0_2 : w2.heap.size ≠ w.heap.size + 1 + 1 := (by omega); have nn_w2_1_2 : w.heap.size + 1 + 1 ≠ w2.heap.size + 1 := (by omega); have mm_w2_1_2 : w2.heap.size + 1 ≠ w.heap.size + 1 + 1 := (by omega); have nn_w2_0_3 : w.heap.size + 1 + 1 + 1 ≠ w2.heap.size := (by omega); have mm_w2_0_3 : w2.heap.size ≠ w.heap.size + 1 + 1 + 1 := (by omega); have nn_w2_1_3 : w.heap.size + 1 + 1 + 1 ≠ w2.heap.size + 1 := (by omega); have mm_w2_1_3 : w2.heap.size + 1 ≠ w.heap.size + 1 + 1 + 1 := (by omega)
  go_wp2_with fail
  refine wp_region_ra [0, 1] [2, 3] 1 (SR _ (w.heap.size + 1 + 1) 18) (by kernel_rfl) (by kernel_rfl) SR.same (SR.init (by go_simp; first | done | rfl)) ?_
  simp only [opsOf, List.filterMap_cons, List.filterMap_nil, List.getElem?_cons_zero, List.getElem?_cons_succ]
  repeat (refine seqV_run (v := ?_) rfl (fun u hu => ?_) ?_; rotate_left; (focus (obtain ⟨hc, hf, hr⟩ := SR.facts hu; clear hu; go_simp; first | done | with_reducible rfl)); (try simp only [Act.put, List.setIfInBounds_toArray, List.set_cons_zero, List.set_cons_succ]))
  refine seqV_nil ?_
  refine tailR_row (A := stA s) rfl (sa_size _) (fun u hu => ?_) ?_
  · have z := hu.z
    clear hu
    go_simp
  simp only [Act.put]
  refine tailR_zero fun u9 hu hrow => ?_
  obtain ⟨hc9, hf9, hr9⟩ := SR.facts hu
  have lt_u9_0 : w.heap.size < u9.heap.size := (by have hh := (hu.k).size; (try simp at hh); omega); have lt_u9_1 : w.heap.size + 1 < u9.heap.size := (by have hh := (hu.k).size; (try simp at hh); omega); have lt_u9_2 : w.heap.size + 1 + 1 < u9.heap.size := (by have hh := (hu.k).size; (try simp at hh); omega); have lt_u9_3 : w.heap.size + 1 + 1 + 1 < u9.heap.size := (by have hh := (hu.k).size; (try simp at hh); omega); have lt1_u9_0 : w.heap.size < u9.heap.size + 1 := (by omega); have lt2_u9_0 : w.heap.size < u9.heap.size + 1 + 1 := (by omega); have lt1_u9_1 : w.heap.size + 1 < u9.heap.size + 1 := (by omega); have lt2_u9_1 : w.heap.size + 1 < u9.heap.size + 1 + 1 := (by omega); have lt1_u9_2 : w.heap.size + 1 + 1 < u9.heap.size + 1 := (by omega); have lt2_u9_2 : w.heap.size + 1 + 1 < u9.heap.size + 1 + 1 := (by omega); have lt1_u9_3 : w.heap.size + 1 + 1 + 1 < u9.heap.size + 1 := (by omega); have lt2_u9_3 : w.heap.size + 1 + 1 + 1 < u9.heap.size + 1 + 1 := (by omega)
  have rw_u9_3 := (hr9 (w.heap.size + 1 + 1 + 1) (by (try simp); (try omega)) (by (try simp); (try omega))).trans (show rowAt _ (w.heap.size + 1 + 1 + 1) = _ by go_simp; rfl)
  have HK4 := hidE hu.k
  clear hu
  go_wp2
  refine post_row2 rfl Try.underlying25 rfl infoS Try.underlying31 rfl infoF rfl rfl rfl (by go_simp; rfl) (by go_simp; rfl) (sa_size _) rfl ⟨by rw [HP.out]; first | done | rfl, ?_⟩
  (repeat (first | with_reducible exact Keeps.refl _ _ | (with_reducible refine Keeps.drew ?_) | (with_reducible refine Keeps.alloc ?_ _) | (with_reducible refine Keeps.setRow ?_ (fun h => absurd h (by omega)) _) | (with_reducible refine Keeps.setCell ?_ (fun h => absurd h (by simp only []; omega)) _) | (with_reducible refine Keeps.trans ?_ HK8.out) | (with_reducible refine same_then ?_ HK8.out (fun k hk => by omega)) | (with_reducible refine Keeps.trans ?_ HK7.out) | (with_reducible refine same_then ?_ HK7.out (fun k hk => by omega)) | (with_reducible refine Keeps.trans ?_ HK6.out) | (with_reducible refine same_then ?_ HK6.out (fun k hk => by omega)) | (with_reducible refine Keeps.trans ?_ HK5.out) | (with_reducible refine same_then ?_ HK5.out (fun k hk => by omega)) | (with_reducible refine Keeps.trans ?_ HK4.out) | (with_reducible refine same_then ?_ HK4.out (fun k hk => by omega)) | (with_reducible refine Keeps.trans ?_ HK3.out) | (with_reducible refine same_then ?_ HK3.out (fun k hk => by omega)) | (with_reducible refine Keeps.trans ?_ HK2.out) | (with_reducible refine same_then ?_ HK2.out (fun k hk => by omega)) | (with_reducible refine Keeps.trans ?_ HK1.out) | (with_reducible refine same_then ?_ HK1.out (fun k hk => by omega))))
set_option maxHeartbeats 2000000 in
set_option maxRecDepth 100000 in
theorem do_trap (s : St) (op a b imm v : Int) (hs : s.Ok) (hi : (⟨op, a, b, imm⟩ : In).Ok) (_v0 : 0 ≤ v) (_v1 : v < 4294967296) (hn : noneB ⟨op, a, b, imm⟩ = false) (hf : (wantL s ⟨op, a, b, imm⟩).2.c = 0) (h8 : op = 80) (w : World) :
    Calls Try.prog 17 #[.agg (stA s), .agg #[.int .u8 op, .int .u8 a, .int .u8 b, .int .i32 imm], .int .u32 v] w fun e w' => e = .returned (.tuple #[.agg (stA (doL s ⟨op, a, b, imm⟩ v).1), .agg (flA (doL s ⟨op, a, b, imm⟩ v).2)]) ∧ Same w w' := by
  have HP : Hid (doL s ⟨op, a, b, imm⟩ v = (s, ⟨8, imm % 4294967296⟩)) := hidE (by unfold doL; simp only; rw [if_neg (by simp [hn]), if_neg (by simp [hf]), if_pos h8])
  have HN : Hid (∀ w, _) := hidE (fun w => none_any _ hi w)
  rw [hn] at HN
  simp only [inA] at HN
  have HW : Hid (∀ w, _) := hidE (fun w => want_any s _ hs hi w)
  simp only [inA] at HW
  generalize wantL s ⟨op, a, b, imm⟩ = W at HW hf
  obtain ⟨W1, ⟨W2, W3⟩⟩ := W
  simp only at hf HW
  subst hf
  subst h8
  clear hn hi
  go_enter Try.func17, Try.ntmps17
  go_wp2_with fail
  refine (HN.out _).mono ?_
  rintro e w1 ⟨rfl, hk⟩
  (obtain ⟨hc1, hf1, hr1, -, -, -⟩ := same_facts hk); have lt_w1_0 : w.heap.size < w1.heap.size := (by have hh := (hk).size; (try simp at hh); omega); have lt_w1_1 : w.heap.size + 1 < w1.heap.size := (by have hh := (hk).size; (try simp at hh); omega); have lt_w1_2 : w.heap.size + 1 + 1 < w1.heap.size := (by have hh := (hk).size; (try simp at hh); omega); have lt_w1_3 : w.heap.size + 1 + 1 + 1 < w1.heap.size := (by have hh := (hk).size; (try simp at hh); omega); have lt1_w1_0 : w.heap.size < w1.heap.size + 1 := (by omega); have lt2_w1_0 : w.heap.size < w1.heap.size + 1 + 1 := (by omega); have lt1_w1_1 : w.heap.size + 1 < w1.heap.size + 1 := (by omega); have lt2_w1_1 : w.heap.size + 1 < w1.heap.size + 1 + 1 := (by omega); have lt1_w1_2 : w.heap.size + 1 + 1 < w1.heap.size + 1 := (by omega); have lt2_w1_2 : w.heap.size + 1 + 1 < w1.heap.size + 1 + 1 := (by omega); have lt1_w1_3 : w.heap.size + 1 + 1 + 1 < w1.heap.size + 1 := (by omega); have lt2_w1_3 : w.heap.size + 1 + 1 + 1 < w1.heap.size + 1 + 1 := (by omega); have rw_w1_0 := (hr1 (w.heap.size) (by (try simp); (try omega))).trans (show rowAt _ (w.heap.size) = _ by go_simp; rfl); have rw_w1_1 := (hr1 (w.heap.size + 1) (by (try simp); (try omega))).trans (show rowAt _ (w.heap.size + 1) = _ by go_simp; rfl); have rw_w1_2 := (hr1 (w.heap.size + 1 + 1) (by (try simp); (try omega))).trans (show rowAt _ (w.heap.size + 1 + 1) = _ by go_simp; rfl); have rw_w1_3 := (hr1 (w.heap.size + 1 + 1 + 1) (by (try simp); (try omega))).trans (show rowAt _ (w.heap.size + 1 + 1 + 1) = _ by go_simp; rfl); have HK1 := hidE hk; clear hk
  go_wp2_with fail
  refine (HW.out _).mono ?_
  rintro e w2 ⟨rfl, hk⟩
  (obtain ⟨hc2, hf2, hr2, -, -, -⟩ := same_facts hk); have lt_w2_0 : w.heap.size < w2.heap.size := (by have hh := (hk).size; (try simp at hh); omega); have lt_w2_1 : w.heap.size + 1 < w2.heap.size := (by have hh := (hk).size; (try simp at hh); omega); have lt_w2_2 : w.heap.size + 1 + 1 < w2.heap.size := (by have hh := (hk).size; (try simp at hh); omega); have lt_w2_3 : w.heap.size + 1 + 1 + 1 < w2.heap.size := (by have hh := (hk).size; (try simp at hh); omega); have lt1_w2_0 : w.heap.size < w2.heap.size + 1 := (by omega); have lt2_w2_0 : w.heap.size < w2.heap.size + 1 + 1 := (by omega); have lt1_w2_1 : w.heap.size + 1 < w2.heap.size + 1 := (by omega); have lt2_w2_1 : w.heap.size + 1 < w2.heap.size + 1 + 1 := (by omega); have lt1_w2_2 : w.heap.size + 1 + 1 < w2.heap.size + 1 := (by omega); have lt2_w2_2 : w.heap.size + 1 + 1 < w2.heap.size + 1 + 1 := (by omega); have lt1_w2_3 : w.heap.size + 1 + 1 + 1 < w2.heap.size + 1 := (by omega); have lt2_w2_3 : w.heap.size + 1 + 1 + 1 < w2.heap.size + 1 + 1 := (by omega); have rw_w2_0 := (hr2 (w.heap.size) (by (try simp); (try omega))).trans (show rowAt _ (w.heap.size) = _ by go_simp; rfl); have rw_w2_1 := (hr2 (w.heap.size + 1) (by (try simp); (try omega))).trans (show rowAt _ (w.heap.size + 1) = _ by go_simp; rfl); have rw_w2_2 := (hr2 (w.heap.size + 1 + 1) (by (try simp); (try omega))).trans (show rowAt _ (w.heap.size + 1 + 1) = _ by go_simp; rfl); have rw_w2_3 := (hr2 (w.heap.size + 1 + 1 + 1) (by (try simp); (try omega))).trans (show rowAt _ (w.heap.size + 1 + 1 + 1) = _ by go_simp; rfl); have HK2 := hidE hk; clear hk
  have nn_w2_0_0 : w.heap.size ≠ w2.heap.size := (by omega); have mm_w2_0_0 : w2.heap.size ≠ w.heap.size := (by omega); have nn_w2_1_0 : w.heap.size ≠ w2.heap.size + 1 := (by omega); have mm_w2_1_0 : w2.heap.size + 1 ≠ w.heap.size := (by omega); have nn_w2_0_1 : w.heap.size + 1 ≠ w2.heap.size := (by omega); have mm_w2_0_1 : w2.heap.size ≠ w.heap.size + 1 := (by omega); have nn_w2_1_1 : w.heap.size + 1 ≠ w2.heap.size + 1 := (by omega); have mm_w2_1_1 : w2.heap.size + 1 ≠ w.heap.size + 1 := (by omega); have nn_w2_0_2 : w.heap.size + 1 + 1 ≠ w2.heap.size := (by omega); have mm_w2_0_2 : w2.heap.size ≠ w.heap.size + 1 + 1 := (by omega); have nn_w2_1_2 : w.heap.size + 1 + 1 ≠ w2.heap.size + 1 := (by omega); have mm_w2_1_2 : w2.heap.size + 1 ≠ w.heap.size + 1 + 1 := (by omega); have nn_w2_0_3 : w.heap.size + 1 + 1 + 1 ≠ w2.heap.size := (by omega); have mm_w2_0_3 : w2.heap.size ≠ w.heap.size + 1 + 1 + 1 := (by omega); have nn_w2_1_3 : w.heap.size + 1 + 1 + 1 ≠ w2.heap.size + 1 := (by omega); have mm_w2_1_3 : w2.heap.size + 1 ≠ w.heap.size + 1 + 1 + 1 := (by omega)
  go_wp2_with fail
  refine wp_region_ra [0, 1, 2, 3, 4] [5, 6] 1 (SR _ (w.heap.size + 1 + 1) 18) (by kernel_rfl) (by kernel_rfl) SR.same (SR.init (by go_simp; first | done | rfl)) ?_
  simp only [opsOf, List.filterMap_cons, List.filterMap_nil, List.getElem?_cons_zero, List.getElem?_cons_succ]
  repeat (refine seqV_run (v := ?_) rfl (fun u hu => ?_) ?_; rotate_left; (focus (obtain ⟨hc, hf, hr⟩ := SR.facts hu; clear hu; go_simp; first | done | with_reducible rfl)); (try simp only [Act.put, List.setIfInBounds_toArray, List.set_cons_zero, List.set_cons_succ]))
  refine seqV_nil ?_
  refine tailR_row (A := stA s) rfl (sa_size _) (fun u hu => ?_) ?_
  · have z := hu.z
    clear hu
    go_simp
  simp only [Act.put]
  refine tailR_zero fun u9 hu hrow => ?_
  obtain ⟨hc9, hf9, hr9⟩ := SR.facts hu
  have lt_u9_0 : w.heap.size < u9.heap.size := (by have hh := (hu.k).size; (try simp at hh); omega); have lt_u9_1 : w.heap.size + 1 < u9.heap.size := (by have hh := (hu.k).size; (try simp at hh); omega); have lt_u9_2 : w.heap.size + 1 + 1 < u9.heap.size := (by have hh := (hu.k).size; (try simp at hh); omega); have lt_u9_3 : w.heap.size + 1 + 1 + 1 < u9.heap.size := (by have hh := (hu.k).size; (try simp at hh); omega); have lt1_u9_0 : w.heap.size < u9.heap.size + 1 := (by omega); have lt2_u9_0 : w.heap.size < u9.heap.size + 1 + 1 := (by omega); have lt1_u9_1 : w.heap.size + 1 < u9.heap.size + 1 := (by omega); have lt2_u9_1 : w.heap.size + 1 < u9.heap.size + 1 + 1 := (by omega); have lt1_u9_2 : w.heap.size + 1 + 1 < u9.heap.size + 1 := (by omega); have lt2_u9_2 : w.heap.size + 1 + 1 < u9.heap.size + 1 + 1 := (by omega); have lt1_u9_3 : w.heap.size + 1 + 1 + 1 < u9.heap.size + 1 := (by omega); have lt2_u9_3 : w.heap.size + 1 + 1 + 1 < u9.heap.size + 1 + 1 := (by omega)
  have rw_u9_3 := (hr9 (w.heap.size + 1 + 1 + 1) (by (try simp); (try omega)) (by (try simp); (try omega))).trans (show rowAt _ (w.heap.size + 1 + 1 + 1) = _ by go_simp; rfl)
  have HK4 := hidE hu.k
  clear hu
  simp only [IntKind.wrap_u32']
  go_wp2
  refine post_row2 rfl Try.underlying25 rfl infoS Try.underlying31 rfl infoF rfl rfl rfl (by go_simp; rfl) (by go_simp; rfl) (sa_size _) rfl ⟨by rw [HP.out]; first | done | rfl, ?_⟩
  (repeat (first | with_reducible exact Keeps.refl _ _ | (with_reducible refine Keeps.drew ?_) | (with_reducible refine Keeps.alloc ?_ _) | (with_reducible refine Keeps.setRow ?_ (fun h => absurd h (by omega)) _) | (with_reducible refine Keeps.setCell ?_ (fun h => absurd h (by simp only []; omega)) _) | (with_reducible refine Keeps.trans ?_ HK8.out) | (with_reducible refine same_then ?_ HK8.out (fun k hk => by omega)) | (with_reducible refine Keeps.trans ?_ HK7.out) | (with_reducible refine same_then ?_ HK7.out (fun k hk => by omega)) | (with_reducible refine Keeps.trans ?_ HK6.out) | (with_reducible refine same_then ?_ HK6.out (fun k hk => by omega)) | (with_reducible refine Keeps.trans ?_ HK5.out) | (with_reducible refine same_then ?_ HK5.out (fun k hk => by omega)) | (with_reducible refine Keeps.trans ?_ HK4.out) | (with_reducible refine same_then ?_ HK4.out (fun k hk => by omega)) | (with_reducible refine Keeps.trans ?_ HK3.out) | (with_reducible refine same_then ?_ HK3.out (fun k hk => by omega)) | (with_reducible refine Keeps.trans ?_ HK2.out) | (with_reducible refine same_then ?_ HK2.out (fun k hk => by omega)) | (with_reducible refine Keeps.trans ?_ HK1.out) | (with_reducible refine same_then ?_ HK1.out (fun k hk => by omega))))
theorem form_n (op : Int) : 0 ≤ (formL op false).n ∧ (formL op false).n ≤ 6 := by
  have h9 := cls_le op false
  unfold formL
  generalize clsOf op false = c at h9
  obtain h | h | h | h | h | h | h | h | h | h : c = 0 ∨ c = 1 ∨ c = 2 ∨ c = 3 ∨ c = 4 ∨ c = 5 ∨ c = 6 ∨ c = 7 ∨ c = 8 ∨ c = 9 := by omega
  all_goals subst h; simp [fmOf, fm0]
theorem jump_any (s : St) (op a b imm n : Int) (hs : s.Ok) (c0 : 64 ≤ op) (c1 : op ≤ 74) (a1 : a < 8) (a0 : 0 ≤ a) (n0 : 0 ≤ n) (n1 : n < 4294967296) (w : World) :
    Calls Try.prog 41 #[.agg (stA s), .agg #[.int .u8 op, .int .u8 a, .int .u8 b, .int .i32 imm], .int .u32 n] w fun e w' => e = .returned (.agg (stA (jumpL s ⟨op, a, b, imm⟩ n))) ∧ Same w w' := by
  by_cases c2 : op ≤ 71
  · cases hh : holdsL (op - 64) s.ps
    · exact jump_c_false s op a b imm n hs a0 a1 n0 n1 c0 c2 hh w
    · exact jump_c_true s op a b imm n hs a0 a1 n0 n1 c0 c2 hh w
  rcases (show op = 72 ∨ op = 73 ∨ op = 74 by omega) with rfl | rfl | rfl
  · exact jump_72 s a b imm n hs a0 a1 n0 n1 w
  · exact jump_73 s a b imm n hs a0 a1 n0 n1 w
  · exact jump_74 s a b imm n hs a0 a1 n0 n1 w
theorem none_may_of {i : In} (h : noneB i = false) : mayB i false = true := by
  unfold noneB at h
  simp only [Bool.or_eq_false_iff, Bool.not_eq_false'] at h
  exact h.1.1
theorem plain_any (t s : St) (op a b imm v : Int) (ht : t.Ok) (a0 : 0 ≤ a) (a1 : a < 8) (b0 : 0 ≤ b) (b1 : b < 8) (v0 : 0 ≤ v) (v1 : v < 4294967296) (w : World) :
    Calls Try.prog 42 #[.agg (stA t), .agg #[.int .u8 op, .int .u8 a, .int .u8 b, .int .i32 imm], .int .u32 v, .agg (stA s)] w fun e w' => e = .returned (.tuple #[.agg (stA (plainL t ⟨op, a, b, imm⟩ v s).1), .agg (flA (plainL t ⟨op, a, b, imm⟩ v s).2)]) ∧ Same w w' := by
  by_cases c1 : op = 16
  · subst c1; exact plain_16 t s a b imm v ht a0 a1 b0 b1 v0 v1 w
  by_cases c2 : op = 32
  · subst c2; exact plain_32 t s a b imm v ht a0 a1 b0 b1 v0 v1 w
  by_cases c3 : op = 25
  · subst c3
    by_cases hz : t.R b.toNat = 0
    · exact plain_25_0 t s a b imm v ht a0 a1 b0 b1 v0 v1 hz w
    · exact plain_25 t s a b imm v ht a0 a1 b0 b1 v0 v1 hz w
  by_cases c4 : op = 30
  · subst c4
    by_cases hz : t.R b.toNat = 0
    · exact plain_30_0 t s a b imm v ht a0 a1 b0 b1 v0 v1 hz w
    · exact plain_30 t s a b imm v ht a0 a1 b0 b1 v0 v1 hz w
  by_cases c5 : 48 ≤ op ∧ op ≤ 58
  · exact plain_mem t s op a b imm v ht a0 a1 b0 b1 v0 v1 c5.1 c5.2 w
  cases h : isSum op
  · exact plain_none t s op a b imm v ht a0 a1 b0 b1 v0 v1 h c5 c1 c2 c3 c4 w
  · by_cases c6 : op = 33
    · subst c6; exact plain_sum33 t s a b imm v ht a0 a1 b0 b1 v0 v1 w
    · cases hk : keepB op
      · exact plain_sum_n t s op a b imm v ht a0 a1 b0 b1 v0 v1 h c6 hk w
      · exact plain_sum_y t s op a b imm v ht a0 a1 b0 b1 v0 v1 h c6 hk w
set_option maxHeartbeats 2000000 in
set_option maxRecDepth 100000 in
theorem do_jump (s : St) (op a b imm v : Int) (hs : s.Ok) (hi : (⟨op, a, b, imm⟩ : In).Ok) (_v0 : 0 ≤ v) (_v1 : v < 4294967296) (hn : noneB ⟨op, a, b, imm⟩ = false) (hf : (wantL s ⟨op, a, b, imm⟩).2.c = 0) (c0 : 64 ≤ op) (c1 : op ≤ 74) (w : World) :
    Calls Try.prog 17 #[.agg (stA s), .agg #[.int .u8 op, .int .u8 a, .int .u8 b, .int .i32 imm], .int .u32 v] w fun e w' => e = .returned (.tuple #[.agg (stA (doL s ⟨op, a, b, imm⟩ v).1), .agg (flA (doL s ⟨op, a, b, imm⟩ v).2)]) ∧ Same w w' := by
  have HP : Hid (doL s ⟨op, a, b, imm⟩ v = (jumpL s ⟨op, a, b, imm⟩ (nextL s ⟨op, a, b, imm⟩), fl0)) := hidE (by unfold doL; simp only; rw [if_neg (by simp [hn]), if_neg (by simp [hf]), if_neg (by omega), if_pos ⟨c0, c1⟩])
  have HN : Hid (∀ w, _) := hidE (fun w => none_any _ hi w)
  rw [hn] at HN
  simp only [inA] at HN
  have HW : Hid (∀ w, _) := hidE (fun w => want_any s _ hs hi w)
  simp only [inA] at HW
  have HZ := hidE (fun w => size_any op false hi.o0 hi.o1 w)
  have hnx : (s.pc + (formL op false).n) % 4294967296 = nextL s ⟨op, a, b, imm⟩ := rfl
  have nx0 : 0 ≤ nextL s ⟨op, a, b, imm⟩ := Int.emod_nonneg _ (by omega)
  have nx1 : nextL s ⟨op, a, b, imm⟩ < 4294967296 := Int.emod_lt_of_pos _ (by omega)
  obtain ⟨f0, f6⟩ : 0 ≤ (formL op false).n ∧ (formL op false).n ≤ 6 := form_n op
  have HC := hidE (fun w => jump_any s op a b imm (nextL s ⟨op, a, b, imm⟩) hs c0 c1 (may_regs (none_may_of hn)).1 hi.a0 nx0 nx1 w)
  generalize jumpL s ⟨op, a, b, imm⟩ (nextL s ⟨op, a, b, imm⟩) = J at HC HP
  have e80 : (op == 80) = false := by simp; omega
  generalize wantL s ⟨op, a, b, imm⟩ = W at HW hf
  obtain ⟨W1, ⟨W2, W3⟩⟩ := W
  simp only at hf HW
  subst hf
  generalize nextL s ⟨op, a, b, imm⟩ = N at *
  generalize (formL op false).n = F at *
  have HNX := hidE hnx
  clear hn hi hnx
  go_enter Try.func17, Try.ntmps17
  go_wp2_with fail
  refine (HN.out _).mono ?_
  rintro e w1 ⟨rfl, hk⟩
  (obtain ⟨hc1, hf1, hr1, -, -, -⟩ := same_facts hk); have lt_w1_0 : w.heap.size < w1.heap.size := (by have hh := (hk).size; (try simp at hh); omega); have lt_w1_1 : w.heap.size + 1 < w1.heap.size := (by have hh := (hk).size; (try simp at hh); omega); have lt_w1_2 : w.heap.size + 1 + 1 < w1.heap.size := (by have hh := (hk).size; (try simp at hh); omega); have lt_w1_3 : w.heap.size + 1 + 1 + 1 < w1.heap.size := (by have hh := (hk).size; (try simp at hh); omega); have lt1_w1_0 : w.heap.size < w1.heap.size + 1 := (by omega); have lt2_w1_0 : w.heap.size < w1.heap.size + 1 + 1 := (by omega); have lt1_w1_1 : w.heap.size + 1 < w1.heap.size + 1 := (by omega); have lt2_w1_1 : w.heap.size + 1 < w1.heap.size + 1 + 1 := (by omega); have lt1_w1_2 : w.heap.size + 1 + 1 < w1.heap.size + 1 := (by omega); have lt2_w1_2 : w.heap.size + 1 + 1 < w1.heap.size + 1 + 1 := (by omega); have lt1_w1_3 : w.heap.size + 1 + 1 + 1 < w1.heap.size + 1 := (by omega); have lt2_w1_3 : w.heap.size + 1 + 1 + 1 < w1.heap.size + 1 + 1 := (by omega); have rw_w1_0 := (hr1 (w.heap.size) (by (try simp); (try omega))).trans (show rowAt _ (w.heap.size) = _ by go_simp; rfl); have rw_w1_1 := (hr1 (w.heap.size + 1) (by (try simp); (try omega))).trans (show rowAt _ (w.heap.size + 1) = _ by go_simp; rfl); have rw_w1_2 := (hr1 (w.heap.size + 1 + 1) (by (try simp); (try omega))).trans (show rowAt _ (w.heap.size + 1 + 1) = _ by go_simp; rfl); have rw_w1_3 := (hr1 (w.heap.size + 1 + 1 + 1) (by (try simp); (try omega))).trans (show rowAt _ (w.heap.size + 1 + 1 + 1) = _ by go_simp; rfl); have HK1 := hidE hk; clear hk
  go_wp2_with fail
  refine (HW.out _).mono ?_
  rintro e w2 ⟨rfl, hk⟩
  (obtain ⟨hc2, hf2, hr2, -, -, -⟩ := same_facts hk); have lt_w2_0 : w.heap.size < w2.heap.size := (by have hh := (hk).size; (try simp at hh); omega); have lt_w2_1 : w.heap.size + 1 < w2.heap.size := (by have hh := (hk).size; (try simp at hh); omega); have lt_w2_2 : w.heap.size + 1 + 1 < w2.heap.size := (by have hh := (hk).size; (try simp at hh); omega); have lt_w2_3 : w.heap.size + 1 + 1 + 1 < w2.heap.size := (by have hh := (hk).size; (try simp at hh); omega); have lt1_w2_0 : w.heap.size < w2.heap.size + 1 := (by omega); have lt2_w2_0 : w.heap.size < w2.heap.size + 1 + 1 := (by omega); have lt1_w2_1 : w.heap.size + 1 < w2.heap.size + 1 := (by omega); have lt2_w2_1 : w.heap.size + 1 < w2.heap.size + 1 + 1 := (by omega); have lt1_w2_2 : w.heap.size + 1 + 1 < w2.heap.size + 1 := (by omega); have lt2_w2_2 : w.heap.size + 1 + 1 < w2.heap.size + 1 + 1 := (by omega); have lt1_w2_3 : w.heap.size + 1 + 1 + 1 < w2.heap.size + 1 := (by omega); have lt2_w2_3 : w.heap.size + 1 + 1 + 1 < w2.heap.size + 1 + 1 := (by omega); have rw_w2_0 := (hr2 (w.heap.size) (by (try simp); (try omega))).trans (show rowAt _ (w.heap.size) = _ by go_simp; rfl); have rw_w2_1 := (hr2 (w.heap.size + 1) (by (try simp); (try omega))).trans (show rowAt _ (w.heap.size + 1) = _ by go_simp; rfl); have rw_w2_2 := (hr2 (w.heap.size + 1 + 1) (by (try simp); (try omega))).trans (show rowAt _ (w.heap.size + 1 + 1) = _ by go_simp; rfl); have rw_w2_3 := (hr2 (w.heap.size + 1 + 1 + 1) (by (try simp); (try omega))).trans (show rowAt _ (w.heap.size + 1 + 1 + 1) = _ by go_simp; rfl); have HK2 := hidE hk; clear hk
  have nn_w2_0_0 : w.heap.size ≠ w2.heap.size := (by omega); have mm_w2_0_0 : w2.heap.size ≠ w.heap.size := (by omega); have nn_w2_1_0 : w.heap.size ≠ w2.heap.size + 1 := (by omega); have mm_w2_1_0 : w2.heap.size + 1 ≠ w.heap.size := (by omega); have nn_w2_0_1 : w.heap.size + 1 ≠ w2.heap.size := (by omega); have mm_w2_0_1 : w2.heap.size ≠ w.heap.size + 1 := (by omega); have nn_w2_1_1 : w.heap.size + 1 ≠ w2.heap.size + 1 := (by omega); have mm_w2_1_1 : w2.heap.size + 1 ≠ w.heap.size + 1 := (by omega); have nn_w2_0_2 : w.heap.size + 1 + 1 ≠ w2.heap.size := (by omega); have mm_w2_0_2 : w2.heap.size ≠ w.heap.size + 1 + 1 := (by omega); have nn_w2_1_2 : w.heap.size + 1 + 1 ≠ w2.heap.size + 1 := (by omega); have mm_w2_1_2 : w2.heap.size + 1 ≠ w.heap.size + 1 + 1 := (by omega); have nn_w2_0_3 : w.heap.size + 1 + 1 + 1 ≠ w2.heap.size := (by omega); have mm_w2_0_3 : w2.heap.size ≠ w.heap.size + 1 + 1 + 1 := (by omega); have nn_w2_1_3 : w.heap.size + 1 + 1 + 1 ≠ w2.heap.size + 1 := (by omega); have mm_w2_1_3 : w2.heap.size + 1 ≠ w.heap.size + 1 + 1 + 1 := (by omega)
  go_wp2_with fail
  refine wp_region_ra [0, 1, 2, 3, 4, 5, 6, 7] [] 0 (Same _) (by kernel_rfl) (by kernel_rfl) (fun u u' h k => Keeps.trans h k) (Keeps.refl _ _).drew ?_
  simp only [opsOf, List.filterMap_cons, List.filterMap_nil, List.getElem?_cons_zero, List.getElem?_cons_succ]
  repeat (refine seqV_run (v := ?_) rfl (fun u hu => ?_) ?_; rotate_left; (focus (obtain ⟨hc, hf, hr, hl, hn, hm⟩ := same_facts hu; clear hu; go_simp; first | done | with_reducible rfl)); (try simp only [Act.put, List.setIfInBounds_toArray, List.set_cons_zero, List.set_cons_succ]))
  refine seqV_call (f := 40) (args := #[.int .u8 op, .bool false]) (v := .int .i64 F) rfl (fun u hu => ?_) (fun u _ => HZ.out u) ?_
  · (obtain ⟨hc, hf, hr, hl, hn, hm⟩ := same_facts hu; clear hu; go_simp)
  simp only [Act.put, List.setIfInBounds_toArray, List.set_cons_zero, List.set_cons_succ]
  repeat (refine seqV_run (v := ?_) rfl (fun u hu => ?_) ?_; rotate_left; (focus (obtain ⟨hc, hf, hr, hl, hn, hm⟩ := same_facts hu; clear hu; go_simp; first | done | with_reducible rfl)); (try simp only [Act.put, List.setIfInBounds_toArray, List.set_cons_zero, List.set_cons_succ]))
  refine seqV_nil ?_
  refine tailR_zero fun u1 hu _ => ?_
  (obtain ⟨hc3, hf3, hr3, -, -, -⟩ := same_facts hu); have lt_u1_0 : w.heap.size < u1.heap.size := (by have hh := (hu).size; (try simp at hh); omega); have lt_u1_1 : w.heap.size + 1 < u1.heap.size := (by have hh := (hu).size; (try simp at hh); omega); have lt_u1_2 : w.heap.size + 1 + 1 < u1.heap.size := (by have hh := (hu).size; (try simp at hh); omega); have lt_u1_3 : w.heap.size + 1 + 1 + 1 < u1.heap.size := (by have hh := (hu).size; (try simp at hh); omega); have lt1_u1_0 : w.heap.size < u1.heap.size + 1 := (by omega); have lt2_u1_0 : w.heap.size < u1.heap.size + 1 + 1 := (by omega); have lt1_u1_1 : w.heap.size + 1 < u1.heap.size + 1 := (by omega); have lt2_u1_1 : w.heap.size + 1 < u1.heap.size + 1 + 1 := (by omega); have lt1_u1_2 : w.heap.size + 1 + 1 < u1.heap.size + 1 := (by omega); have lt2_u1_2 : w.heap.size + 1 + 1 < u1.heap.size + 1 + 1 := (by omega); have lt1_u1_3 : w.heap.size + 1 + 1 + 1 < u1.heap.size + 1 := (by omega); have lt2_u1_3 : w.heap.size + 1 + 1 + 1 < u1.heap.size + 1 + 1 := (by omega); have rw_u1_0 := (hr3 (w.heap.size) (by (try simp); (try omega))).trans (show rowAt _ (w.heap.size) = _ by go_simp; rfl); have rw_u1_1 := (hr3 (w.heap.size + 1) (by (try simp); (try omega))).trans (show rowAt _ (w.heap.size + 1) = _ by go_simp; rfl); have rw_u1_2 := (hr3 (w.heap.size + 1 + 1) (by (try simp); (try omega))).trans (show rowAt _ (w.heap.size + 1 + 1) = _ by go_simp; rfl); have rw_u1_3 := (hr3 (w.heap.size + 1 + 1 + 1) (by (try simp); (try omega))).trans (show rowAt _ (w.heap.size + 1 + 1 + 1) = _ by go_simp; rfl); have HK3 := hidE hu; clear hu
  simp only [IntKind.wrap_u32', Int.add_emod_emod, HNX.out]
  go_wp2_with fail
  refine (HC.out _).mono ?_
  rintro e w4 ⟨rfl, hk⟩
  (obtain ⟨hc4, hf4, hr4, -, -, -⟩ := same_facts hk); have lt_w4_0 : w.heap.size < w4.heap.size := (by have hh := (hk).size; (try simp at hh); omega); have lt_w4_1 : w.heap.size + 1 < w4.heap.size := (by have hh := (hk).size; (try simp at hh); omega); have lt_w4_2 : w.heap.size + 1 + 1 < w4.heap.size := (by have hh := (hk).size; (try simp at hh); omega); have lt_w4_3 : w.heap.size + 1 + 1 + 1 < w4.heap.size := (by have hh := (hk).size; (try simp at hh); omega); have lt1_w4_0 : w.heap.size < w4.heap.size + 1 := (by omega); have lt2_w4_0 : w.heap.size < w4.heap.size + 1 + 1 := (by omega); have lt1_w4_1 : w.heap.size + 1 < w4.heap.size + 1 := (by omega); have lt2_w4_1 : w.heap.size + 1 < w4.heap.size + 1 + 1 := (by omega); have lt1_w4_2 : w.heap.size + 1 + 1 < w4.heap.size + 1 := (by omega); have lt2_w4_2 : w.heap.size + 1 + 1 < w4.heap.size + 1 + 1 := (by omega); have lt1_w4_3 : w.heap.size + 1 + 1 + 1 < w4.heap.size + 1 := (by omega); have lt2_w4_3 : w.heap.size + 1 + 1 + 1 < w4.heap.size + 1 + 1 := (by omega); have rw_w4_0 := (hr4 (w.heap.size) (by (try simp); (try omega))).trans (show rowAt _ (w.heap.size) = _ by go_simp; rfl); have rw_w4_1 := (hr4 (w.heap.size + 1) (by (try simp); (try omega))).trans (show rowAt _ (w.heap.size + 1) = _ by go_simp; rfl); have rw_w4_2 := (hr4 (w.heap.size + 1 + 1) (by (try simp); (try omega))).trans (show rowAt _ (w.heap.size + 1 + 1) = _ by go_simp; rfl); have rw_w4_3 := (hr4 (w.heap.size + 1 + 1 + 1) (by (try simp); (try omega))).trans (show rowAt _ (w.heap.size + 1 + 1 + 1) = _ by go_simp; rfl); have HK4 := hidE hk; clear hk
  go_wp2
  refine post_row2 rfl Try.underlying25 rfl infoS Try.underlying31 rfl infoF rfl rfl rfl (by go_simp; rfl) (by go_simp; rfl) (sa_size _) rfl ⟨by rw [HP.out]; first | done | rfl, ?_⟩
  (repeat (first | with_reducible exact Keeps.refl _ _ | (with_reducible refine Keeps.drew ?_) | (with_reducible refine Keeps.alloc ?_ _) | (with_reducible refine Keeps.setRow ?_ (fun h => absurd h (by omega)) _) | (with_reducible refine Keeps.setCell ?_ (fun h => absurd h (by simp only []; omega)) _) | (with_reducible refine Keeps.trans ?_ HK8.out) | (with_reducible refine same_then ?_ HK8.out (fun k hk => by omega)) | (with_reducible refine Keeps.trans ?_ HK7.out) | (with_reducible refine same_then ?_ HK7.out (fun k hk => by omega)) | (with_reducible refine Keeps.trans ?_ HK6.out) | (with_reducible refine same_then ?_ HK6.out (fun k hk => by omega)) | (with_reducible refine Keeps.trans ?_ HK5.out) | (with_reducible refine same_then ?_ HK5.out (fun k hk => by omega)) | (with_reducible refine Keeps.trans ?_ HK4.out) | (with_reducible refine same_then ?_ HK4.out (fun k hk => by omega)) | (with_reducible refine Keeps.trans ?_ HK3.out) | (with_reducible refine same_then ?_ HK3.out (fun k hk => by omega)) | (with_reducible refine Keeps.trans ?_ HK2.out) | (with_reducible refine same_then ?_ HK2.out (fun k hk => by omega)) | (with_reducible refine Keeps.trans ?_ HK1.out) | (with_reducible refine same_then ?_ HK1.out (fun k hk => by omega))))
theorem setPc_ok {s : St} {n : Int} (h : s.Ok) (n0 : 0 ≤ n) (n1 : n < 4294967296) : (s.setPc n).Ok := ⟨h.r0, h.r1, n0, n1, h.ps0, h.ps1⟩
set_option maxHeartbeats 2000000 in
set_option maxRecDepth 100000 in
theorem do_low (s : St) (op a b imm v : Int) (hs : s.Ok) (hi : (⟨op, a, b, imm⟩ : In).Ok) (v0 : 0 ≤ v) (v1 : v < 4294967296) (hn : noneB ⟨op, a, b, imm⟩ = false) (hf : (wantL s ⟨op, a, b, imm⟩).2.c = 0) (c0 : op < 64) (c1 : op ≠ 80) (w : World) :
    Calls Try.prog 17 #[.agg (stA s), .agg #[.int .u8 op, .int .u8 a, .int .u8 b, .int .i32 imm], .int .u32 v] w fun e w' => e = .returned (.tuple #[.agg (stA (doL s ⟨op, a, b, imm⟩ v).1), .agg (flA (doL s ⟨op, a, b, imm⟩ v).2)]) ∧ Same w w' := by
  have HP : Hid (doL s ⟨op, a, b, imm⟩ v = plainL (s.setPc (nextL s ⟨op, a, b, imm⟩)) ⟨op, a, b, imm⟩ v s) := hidE (by unfold doL; simp only; rw [if_neg (by simp [hn]), if_neg (by simp [hf]), if_neg c1, if_neg (by omega)])
  have HN : Hid (∀ w, _) := hidE (fun w => none_any _ hi w)
  rw [hn] at HN
  simp only [inA] at HN
  have HW : Hid (∀ w, _) := hidE (fun w => want_any s _ hs hi w)
  simp only [inA] at HW
  have HZ := hidE (fun w => size_any op false hi.o0 hi.o1 w)
  have hnx : (s.pc + (formL op false).n) % 4294967296 = nextL s ⟨op, a, b, imm⟩ := rfl
  have nx0 : 0 ≤ nextL s ⟨op, a, b, imm⟩ := Int.emod_nonneg _ (by omega)
  have nx1 : nextL s ⟨op, a, b, imm⟩ < 4294967296 := Int.emod_lt_of_pos _ (by omega)
  obtain ⟨f0, f6⟩ : 0 ≤ (formL op false).n ∧ (formL op false).n ≤ 6 := form_n op
  have HC := hidE (fun w => plain_any (s.setPc (nextL s ⟨op, a, b, imm⟩)) s op a b imm v (setPc_ok hs nx0 nx1) hi.a0 (may_regs (none_may_of hn)).1 hi.b0 (may_regs (none_may_of hn)).2 v0 v1 w)
  generalize plainL (s.setPc (nextL s ⟨op, a, b, imm⟩)) ⟨op, a, b, imm⟩ v s = J at HC HP
  have e80 : (op == 80) = false := by simp; omega
  clear c1
  have lt64 : op < 64 := c0
  generalize wantL s ⟨op, a, b, imm⟩ = W at HW hf
  obtain ⟨W1, ⟨W2, W3⟩⟩ := W
  simp only at hf HW
  subst hf
  generalize nextL s ⟨op, a, b, imm⟩ = N at *
  generalize (formL op false).n = F at *
  have HNX := hidE hnx
  clear hn hi hnx
  go_enter Try.func17, Try.ntmps17
  go_wp2_with fail
  refine (HN.out _).mono ?_
  rintro e w1 ⟨rfl, hk⟩
  (obtain ⟨hc1, hf1, hr1, -, -, -⟩ := same_facts hk); have lt_w1_0 : w.heap.size < w1.heap.size := (by have hh := (hk).size; (try simp at hh); omega); have lt_w1_1 : w.heap.size + 1 < w1.heap.size := (by have hh := (hk).size; (try simp at hh); omega); have lt_w1_2 : w.heap.size + 1 + 1 < w1.heap.size := (by have hh := (hk).size; (try simp at hh); omega); have lt_w1_3 : w.heap.size + 1 + 1 + 1 < w1.heap.size := (by have hh := (hk).size; (try simp at hh); omega); have lt1_w1_0 : w.heap.size < w1.heap.size + 1 := (by omega); have lt2_w1_0 : w.heap.size < w1.heap.size + 1 + 1 := (by omega); have lt1_w1_1 : w.heap.size + 1 < w1.heap.size + 1 := (by omega); have lt2_w1_1 : w.heap.size + 1 < w1.heap.size + 1 + 1 := (by omega); have lt1_w1_2 : w.heap.size + 1 + 1 < w1.heap.size + 1 := (by omega); have lt2_w1_2 : w.heap.size + 1 + 1 < w1.heap.size + 1 + 1 := (by omega); have lt1_w1_3 : w.heap.size + 1 + 1 + 1 < w1.heap.size + 1 := (by omega); have lt2_w1_3 : w.heap.size + 1 + 1 + 1 < w1.heap.size + 1 + 1 := (by omega); have rw_w1_0 := (hr1 (w.heap.size) (by (try simp); (try omega))).trans (show rowAt _ (w.heap.size) = _ by go_simp; rfl); have rw_w1_1 := (hr1 (w.heap.size + 1) (by (try simp); (try omega))).trans (show rowAt _ (w.heap.size + 1) = _ by go_simp; rfl); have rw_w1_2 := (hr1 (w.heap.size + 1 + 1) (by (try simp); (try omega))).trans (show rowAt _ (w.heap.size + 1 + 1) = _ by go_simp; rfl); have rw_w1_3 := (hr1 (w.heap.size + 1 + 1 + 1) (by (try simp); (try omega))).trans (show rowAt _ (w.heap.size + 1 + 1 + 1) = _ by go_simp; rfl); have HK1 := hidE hk; clear hk
  go_wp2_with fail
  refine (HW.out _).mono ?_
  rintro e w2 ⟨rfl, hk⟩
  (obtain ⟨hc2, hf2, hr2, -, -, -⟩ := same_facts hk); have lt_w2_0 : w.heap.size < w2.heap.size := (by have hh := (hk).size; (try simp at hh); omega); have lt_w2_1 : w.heap.size + 1 < w2.heap.size := (by have hh := (hk).size; (try simp at hh); omega); have lt_w2_2 : w.heap.size + 1 + 1 < w2.heap.size := (by have hh := (hk).size; (try simp at hh); omega); have lt_w2_3 : w.heap.size + 1 + 1 + 1 < w2.heap.size := (by have hh := (hk).size; (try simp at hh); omega); have lt1_w2_0 : w.heap.size < w2.heap.size + 1 := (by omega); have lt2_w2_0 : w.heap.size < w2.heap.size + 1 + 1 := (by omega); have lt1_w2_1 : w.heap.size + 1 < w2.heap.size + 1 := (by omega); have lt2_w2_1 : w.heap.size + 1 < w2.heap.size + 1 + 1 := (by omega); have lt1_w2_2 : w.heap.size + 1 + 1 < w2.heap.size + 1 := (by omega); have lt2_w2_2 : w.heap.size + 1 + 1 < w2.heap.size + 1 + 1 := (by omega); have lt1_w2_3 : w.heap.size + 1 + 1 + 1 < w2.heap.size + 1 := (by omega); have lt2_w2_3 : w.heap.size + 1 + 1 + 1 < w2.heap.size + 1 + 1 := (by omega); have rw_w2_0 := (hr2 (w.heap.size) (by (try simp); (try omega))).trans (show rowAt _ (w.heap.size) = _ by go_simp; rfl); have rw_w2_1 := (hr2 (w.heap.size + 1) (by (try simp); (try omega))).trans (show rowAt _ (w.heap.size + 1) = _ by go_simp; rfl); have rw_w2_2 := (hr2 (w.heap.size + 1 + 1) (by (try simp); (try omega))).trans (show rowAt _ (w.heap.size + 1 + 1) = _ by go_simp; rfl); have rw_w2_3 := (hr2 (w.heap.size + 1 + 1 + 1) (by (try simp); (try omega))).trans (show rowAt _ (w.heap.size + 1 + 1 + 1) = _ by go_simp; rfl); have HK2 := hidE hk; clear hk
  have nn_w2_0_0 : w.heap.size ≠ w2.heap.size := (by omega); have mm_w2_0_0 : w2.heap.size ≠ w.heap.size := (by omega); have nn_w2_1_0 : w.heap.size ≠ w2.heap.size + 1 := (by omega); have mm_w2_1_0 : w2.heap.size + 1 ≠ w.heap.size := (by omega); have nn_w2_0_1 : w.heap.size + 1 ≠ w2.heap.size := (by omega); have mm_w2_0_1 : w2.heap.size ≠ w.heap.size + 1 := (by omega); have nn_w2_1_1 : w.heap.size + 1 ≠ w2.heap.size + 1 := (by omega); have mm_w2_1_1 : w2.heap.size + 1 ≠ w.heap.size + 1 := (by omega); have nn_w2_0_2 : w.heap.size + 1 + 1 ≠ w2.heap.size := (by omega); have mm_w2_0_2 : w2.heap.size ≠ w.heap.size + 1 + 1 := (by omega); have nn_w2_1_2 : w.heap.size + 1 + 1 ≠ w2.heap.size + 1 := (by omega); have mm_w2_1_2 : w2.heap.size + 1 ≠ w.heap.size + 1 + 1 := (by omega); have nn_w2_0_3 : w.heap.size + 1 + 1 + 1 ≠ w2.heap.size := (by omega); have mm_w2_0_3 : w2.heap.size ≠ w.heap.size + 1 + 1 + 1 := (by omega); have nn_w2_1_3 : w.heap.size + 1 + 1 + 1 ≠ w2.heap.size + 1 := (by omega); have mm_w2_1_3 : w2.heap.size + 1 ≠ w.heap.size + 1 + 1 + 1 := (by omega)
  go_wp2_with fail
  refine wp_region_ra [0, 1, 2, 3, 4, 5, 6, 7] [] 0 (Same _) (by kernel_rfl) (by kernel_rfl) (fun u u' h k => Keeps.trans h k) (Keeps.refl _ _).drew ?_
  simp only [opsOf, List.filterMap_cons, List.filterMap_nil, List.getElem?_cons_zero, List.getElem?_cons_succ]
  repeat (refine seqV_run (v := ?_) rfl (fun u hu => ?_) ?_; rotate_left; (focus (obtain ⟨hc, hf, hr, hl, hn, hm⟩ := same_facts hu; clear hu; go_simp; first | done | with_reducible rfl)); (try simp only [Act.put, List.setIfInBounds_toArray, List.set_cons_zero, List.set_cons_succ]))
  refine seqV_call (f := 40) (args := #[.int .u8 op, .bool false]) (v := .int .i64 F) rfl (fun u hu => ?_) (fun u _ => HZ.out u) ?_
  · (obtain ⟨hc, hf, hr, hl, hn, hm⟩ := same_facts hu; clear hu; go_simp)
  simp only [Act.put, List.setIfInBounds_toArray, List.set_cons_zero, List.set_cons_succ]
  repeat (refine seqV_run (v := ?_) rfl (fun u hu => ?_) ?_; rotate_left; (focus (obtain ⟨hc, hf, hr, hl, hn, hm⟩ := same_facts hu; clear hu; go_simp; first | done | with_reducible rfl)); (try simp only [Act.put, List.setIfInBounds_toArray, List.set_cons_zero, List.set_cons_succ]))
  refine seqV_nil ?_
  refine tailR_zero fun u1 hu _ => ?_
  (obtain ⟨hc3, hf3, hr3, -, -, -⟩ := same_facts hu); have lt_u1_0 : w.heap.size < u1.heap.size := (by have hh := (hu).size; (try simp at hh); omega); have lt_u1_1 : w.heap.size + 1 < u1.heap.size := (by have hh := (hu).size; (try simp at hh); omega); have lt_u1_2 : w.heap.size + 1 + 1 < u1.heap.size := (by have hh := (hu).size; (try simp at hh); omega); have lt_u1_3 : w.heap.size + 1 + 1 + 1 < u1.heap.size := (by have hh := (hu).size; (try simp at hh); omega); have lt1_u1_0 : w.heap.size < u1.heap.size + 1 := (by omega); have lt2_u1_0 : w.heap.size < u1.heap.size + 1 + 1 := (by omega); have lt1_u1_1 : w.heap.size + 1 < u1.heap.size + 1 := (by omega); have lt2_u1_1 : w.heap.size + 1 < u1.heap.size + 1 + 1 := (by omega); have lt1_u1_2 : w.heap.size + 1 + 1 < u1.heap.size + 1 := (by omega); have lt2_u1_2 : w.heap.size + 1 + 1 < u1.heap.size + 1 + 1 := (by omega); have lt1_u1_3 : w.heap.size + 1 + 1 + 1 < u1.heap.size + 1 := (by omega); have lt2_u1_3 : w.heap.size + 1 + 1 + 1 < u1.heap.size + 1 + 1 := (by omega); have rw_u1_0 := (hr3 (w.heap.size) (by (try simp); (try omega))).trans (show rowAt _ (w.heap.size) = _ by go_simp; rfl); have rw_u1_1 := (hr3 (w.heap.size + 1) (by (try simp); (try omega))).trans (show rowAt _ (w.heap.size + 1) = _ by go_simp; rfl); have rw_u1_2 := (hr3 (w.heap.size + 1 + 1) (by (try simp); (try omega))).trans (show rowAt _ (w.heap.size + 1 + 1) = _ by go_simp; rfl); have rw_u1_3 := (hr3 (w.heap.size + 1 + 1 + 1) (by (try simp); (try omega))).trans (show rowAt _ (w.heap.size + 1 + 1 + 1) = _ by go_simp; rfl); have HK3 := hidE hu; clear hu
  simp only [IntKind.wrap_u32', Int.add_emod_emod, HNX.out]
  go_wp2_with fail
  refine (HC.out _).mono ?_
  rintro e w4 ⟨rfl, hk⟩
  (obtain ⟨hc4, hf4, hr4, -, -, -⟩ := same_facts hk); have lt_w4_0 : w.heap.size < w4.heap.size := (by have hh := (hk).size; (try simp at hh); omega); have lt_w4_1 : w.heap.size + 1 < w4.heap.size := (by have hh := (hk).size; (try simp at hh); omega); have lt_w4_2 : w.heap.size + 1 + 1 < w4.heap.size := (by have hh := (hk).size; (try simp at hh); omega); have lt_w4_3 : w.heap.size + 1 + 1 + 1 < w4.heap.size := (by have hh := (hk).size; (try simp at hh); omega); have lt1_w4_0 : w.heap.size < w4.heap.size + 1 := (by omega); have lt2_w4_0 : w.heap.size < w4.heap.size + 1 + 1 := (by omega); have lt1_w4_1 : w.heap.size + 1 < w4.heap.size + 1 := (by omega); have lt2_w4_1 : w.heap.size + 1 < w4.heap.size + 1 + 1 := (by omega); have lt1_w4_2 : w.heap.size + 1 + 1 < w4.heap.size + 1 := (by omega); have lt2_w4_2 : w.heap.size + 1 + 1 < w4.heap.size + 1 + 1 := (by omega); have lt1_w4_3 : w.heap.size + 1 + 1 + 1 < w4.heap.size + 1 := (by omega); have lt2_w4_3 : w.heap.size + 1 + 1 + 1 < w4.heap.size + 1 + 1 := (by omega); have rw_w4_0 := (hr4 (w.heap.size) (by (try simp); (try omega))).trans (show rowAt _ (w.heap.size) = _ by go_simp; rfl); have rw_w4_1 := (hr4 (w.heap.size + 1) (by (try simp); (try omega))).trans (show rowAt _ (w.heap.size + 1) = _ by go_simp; rfl); have rw_w4_2 := (hr4 (w.heap.size + 1 + 1) (by (try simp); (try omega))).trans (show rowAt _ (w.heap.size + 1 + 1) = _ by go_simp; rfl); have rw_w4_3 := (hr4 (w.heap.size + 1 + 1 + 1) (by (try simp); (try omega))).trans (show rowAt _ (w.heap.size + 1 + 1 + 1) = _ by go_simp; rfl); have HK4 := hidE hk; clear hk
  go_wp2
  refine post_row2 rfl Try.underlying25 rfl infoS Try.underlying31 rfl infoF rfl rfl rfl (by go_simp; rfl) (by go_simp; rfl) (sa_size _) rfl ⟨by rw [HP.out]; first | done | rfl, ?_⟩
  (repeat (first | with_reducible exact Keeps.refl _ _ | (with_reducible refine Keeps.drew ?_) | (with_reducible refine Keeps.alloc ?_ _) | (with_reducible refine Keeps.setRow ?_ (fun h => absurd h (by omega)) _) | (with_reducible refine Keeps.setCell ?_ (fun h => absurd h (by simp only []; omega)) _) | (with_reducible refine Keeps.trans ?_ HK8.out) | (with_reducible refine same_then ?_ HK8.out (fun k hk => by omega)) | (with_reducible refine Keeps.trans ?_ HK7.out) | (with_reducible refine same_then ?_ HK7.out (fun k hk => by omega)) | (with_reducible refine Keeps.trans ?_ HK6.out) | (with_reducible refine same_then ?_ HK6.out (fun k hk => by omega)) | (with_reducible refine Keeps.trans ?_ HK5.out) | (with_reducible refine same_then ?_ HK5.out (fun k hk => by omega)) | (with_reducible refine Keeps.trans ?_ HK4.out) | (with_reducible refine same_then ?_ HK4.out (fun k hk => by omega)) | (with_reducible refine Keeps.trans ?_ HK3.out) | (with_reducible refine same_then ?_ HK3.out (fun k hk => by omega)) | (with_reducible refine Keeps.trans ?_ HK2.out) | (with_reducible refine same_then ?_ HK2.out (fun k hk => by omega)) | (with_reducible refine Keeps.trans ?_ HK1.out) | (with_reducible refine same_then ?_ HK1.out (fun k hk => by omega))))
set_option maxHeartbeats 2000000 in
set_option maxRecDepth 100000 in
theorem do_high (s : St) (op a b imm v : Int) (hs : s.Ok) (hi : (⟨op, a, b, imm⟩ : In).Ok) (v0 : 0 ≤ v) (v1 : v < 4294967296) (hn : noneB ⟨op, a, b, imm⟩ = false) (hf : (wantL s ⟨op, a, b, imm⟩).2.c = 0) (c0 : 74 < op) (c1 : op ≠ 80) (w : World) :
    Calls Try.prog 17 #[.agg (stA s), .agg #[.int .u8 op, .int .u8 a, .int .u8 b, .int .i32 imm], .int .u32 v] w fun e w' => e = .returned (.tuple #[.agg (stA (doL s ⟨op, a, b, imm⟩ v).1), .agg (flA (doL s ⟨op, a, b, imm⟩ v).2)]) ∧ Same w w' := by
  have HP : Hid (doL s ⟨op, a, b, imm⟩ v = plainL (s.setPc (nextL s ⟨op, a, b, imm⟩)) ⟨op, a, b, imm⟩ v s) := hidE (by unfold doL; simp only; rw [if_neg (by simp [hn]), if_neg (by simp [hf]), if_neg c1, if_neg (by omega)])
  have HN : Hid (∀ w, _) := hidE (fun w => none_any _ hi w)
  rw [hn] at HN
  simp only [inA] at HN
  have HW : Hid (∀ w, _) := hidE (fun w => want_any s _ hs hi w)
  simp only [inA] at HW
  have HZ := hidE (fun w => size_any op false hi.o0 hi.o1 w)
  have hnx : (s.pc + (formL op false).n) % 4294967296 = nextL s ⟨op, a, b, imm⟩ := rfl
  have nx0 : 0 ≤ nextL s ⟨op, a, b, imm⟩ := Int.emod_nonneg _ (by omega)
  have nx1 : nextL s ⟨op, a, b, imm⟩ < 4294967296 := Int.emod_lt_of_pos _ (by omega)
  obtain ⟨f0, f6⟩ : 0 ≤ (formL op false).n ∧ (formL op false).n ≤ 6 := form_n op
  have HC := hidE (fun w => plain_any (s.setPc (nextL s ⟨op, a, b, imm⟩)) s op a b imm v (setPc_ok hs nx0 nx1) hi.a0 (may_regs (none_may_of hn)).1 hi.b0 (may_regs (none_may_of hn)).2 v0 v1 w)
  generalize plainL (s.setPc (nextL s ⟨op, a, b, imm⟩)) ⟨op, a, b, imm⟩ v s = J at HC HP
  have e80 : (op == 80) = false := by simp; omega
  clear c1
  have c9 : 64 ≤ op := by omega
  generalize wantL s ⟨op, a, b, imm⟩ = W at HW hf
  obtain ⟨W1, ⟨W2, W3⟩⟩ := W
  simp only at hf HW
  subst hf
  generalize nextL s ⟨op, a, b, imm⟩ = N at *
  generalize (formL op false).n = F at *
  have HNX := hidE hnx
  clear hn hi hnx
  go_enter Try.func17, Try.ntmps17
  go_wp2_with fail
  refine (HN.out _).mono ?_
  rintro e w1 ⟨rfl, hk⟩
  (obtain ⟨hc1, hf1, hr1, -, -, -⟩ := same_facts hk); have lt_w1_0 : w.heap.size < w1.heap.size := (by have hh := (hk).size; (try simp at hh); omega); have lt_w1_1 : w.heap.size + 1 < w1.heap.size := (by have hh := (hk).size; (try simp at hh); omega); have lt_w1_2 : w.heap.size + 1 + 1 < w1.heap.size := (by have hh := (hk).size; (try simp at hh); omega); have lt_w1_3 : w.heap.size + 1 + 1 + 1 < w1.heap.size := (by have hh := (hk).size; (try simp at hh); omega); have lt1_w1_0 : w.heap.size < w1.heap.size + 1 := (by omega); have lt2_w1_0 : w.heap.size < w1.heap.size + 1 + 1 := (by omega); have lt1_w1_1 : w.heap.size + 1 < w1.heap.size + 1 := (by omega); have lt2_w1_1 : w.heap.size + 1 < w1.heap.size + 1 + 1 := (by omega); have lt1_w1_2 : w.heap.size + 1 + 1 < w1.heap.size + 1 := (by omega); have lt2_w1_2 : w.heap.size + 1 + 1 < w1.heap.size + 1 + 1 := (by omega); have lt1_w1_3 : w.heap.size + 1 + 1 + 1 < w1.heap.size + 1 := (by omega); have lt2_w1_3 : w.heap.size + 1 + 1 + 1 < w1.heap.size + 1 + 1 := (by omega); have rw_w1_0 := (hr1 (w.heap.size) (by (try simp); (try omega))).trans (show rowAt _ (w.heap.size) = _ by go_simp; rfl); have rw_w1_1 := (hr1 (w.heap.size + 1) (by (try simp); (try omega))).trans (show rowAt _ (w.heap.size + 1) = _ by go_simp; rfl); have rw_w1_2 := (hr1 (w.heap.size + 1 + 1) (by (try simp); (try omega))).trans (show rowAt _ (w.heap.size + 1 + 1) = _ by go_simp; rfl); have rw_w1_3 := (hr1 (w.heap.size + 1 + 1 + 1) (by (try simp); (try omega))).trans (show rowAt _ (w.heap.size + 1 + 1 + 1) = _ by go_simp; rfl); have HK1 := hidE hk; clear hk
  go_wp2_with fail
  refine (HW.out _).mono ?_
  rintro e w2 ⟨rfl, hk⟩
  (obtain ⟨hc2, hf2, hr2, -, -, -⟩ := same_facts hk); have lt_w2_0 : w.heap.size < w2.heap.size := (by have hh := (hk).size; (try simp at hh); omega); have lt_w2_1 : w.heap.size + 1 < w2.heap.size := (by have hh := (hk).size; (try simp at hh); omega); have lt_w2_2 : w.heap.size + 1 + 1 < w2.heap.size := (by have hh := (hk).size; (try simp at hh); omega); have lt_w2_3 : w.heap.size + 1 + 1 + 1 < w2.heap.size := (by have hh := (hk).size; (try simp at hh); omega); have lt1_w2_0 : w.heap.size < w2.heap.size + 1 := (by omega); have lt2_w2_0 : w.heap.size < w2.heap.size + 1 + 1 := (by omega); have lt1_w2_1 : w.heap.size + 1 < w2.heap.size + 1 := (by omega); have lt2_w2_1 : w.heap.size + 1 < w2.heap.size + 1 + 1 := (by omega); have lt1_w2_2 : w.heap.size + 1 + 1 < w2.heap.size + 1 := (by omega); have lt2_w2_2 : w.heap.size + 1 + 1 < w2.heap.size + 1 + 1 := (by omega); have lt1_w2_3 : w.heap.size + 1 + 1 + 1 < w2.heap.size + 1 := (by omega); have lt2_w2_3 : w.heap.size + 1 + 1 + 1 < w2.heap.size + 1 + 1 := (by omega); have rw_w2_0 := (hr2 (w.heap.size) (by (try simp); (try omega))).trans (show rowAt _ (w.heap.size) = _ by go_simp; rfl); have rw_w2_1 := (hr2 (w.heap.size + 1) (by (try simp); (try omega))).trans (show rowAt _ (w.heap.size + 1) = _ by go_simp; rfl); have rw_w2_2 := (hr2 (w.heap.size + 1 + 1) (by (try simp); (try omega))).trans (show rowAt _ (w.heap.size + 1 + 1) = _ by go_simp; rfl); have rw_w2_3 := (hr2 (w.heap.size + 1 + 1 + 1) (by (try simp); (try omega))).trans (show rowAt _ (w.heap.size + 1 + 1 + 1) = _ by go_simp; rfl); have HK2 := hidE hk; clear hk
  have nn_w2_0_0 : w.heap.size ≠ w2.heap.size := (by omega); have mm_w2_0_0 : w2.heap.size ≠ w.heap.size := (by omega); have nn_w2_1_0 : w.heap.size ≠ w2.heap.size + 1 := (by omega); have mm_w2_1_0 : w2.heap.size + 1 ≠ w.heap.size := (by omega); have nn_w2_0_1 : w.heap.size + 1 ≠ w2.heap.size := (by omega); have mm_w2_0_1 : w2.heap.size ≠ w.heap.size + 1 := (by omega); have nn_w2_1_1 : w.heap.size + 1 ≠ w2.heap.size + 1 := (by omega); have mm_w2_1_1 : w2.heap.size + 1 ≠ w.heap.size + 1 := (by omega); have nn_w2_0_2 : w.heap.size + 1 + 1 ≠ w2.heap.size := (by omega); have mm_w2_0_2 : w2.heap.size ≠ w.heap.size + 1 + 1 := (by omega); have nn_w2_1_2 : w.heap.size + 1 + 1 ≠ w2.heap.size + 1 := (by omega); have mm_w2_1_2 : w2.heap.size + 1 ≠ w.heap.size + 1 + 1 := (by omega); have nn_w2_0_3 : w.heap.size + 1 + 1 + 1 ≠ w2.heap.size := (by omega); have mm_w2_0_3 : w2.heap.size ≠ w.heap.size + 1 + 1 + 1 := (by omega); have nn_w2_1_3 : w.heap.size + 1 + 1 + 1 ≠ w2.heap.size + 1 := (by omega); have mm_w2_1_3 : w2.heap.size + 1 ≠ w.heap.size + 1 + 1 + 1 := (by omega)
  go_wp2_with fail
  refine wp_region_ra [0, 1, 2, 3, 4, 5, 6, 7] [] 0 (Same _) (by kernel_rfl) (by kernel_rfl) (fun u u' h k => Keeps.trans h k) (Keeps.refl _ _).drew ?_
  simp only [opsOf, List.filterMap_cons, List.filterMap_nil, List.getElem?_cons_zero, List.getElem?_cons_succ]
  repeat (refine seqV_run (v := ?_) rfl (fun u hu => ?_) ?_; rotate_left; (focus (obtain ⟨hc, hf, hr, hl, hn, hm⟩ := same_facts hu; clear hu; go_simp; first | done | with_reducible rfl)); (try simp only [Act.put, List.setIfInBounds_toArray, List.set_cons_zero, List.set_cons_succ]))
  refine seqV_call (f := 40) (args := #[.int .u8 op, .bool false]) (v := .int .i64 F) rfl (fun u hu => ?_) (fun u _ => HZ.out u) ?_
  · (obtain ⟨hc, hf, hr, hl, hn, hm⟩ := same_facts hu; clear hu; go_simp)
  simp only [Act.put, List.setIfInBounds_toArray, List.set_cons_zero, List.set_cons_succ]
  repeat (refine seqV_run (v := ?_) rfl (fun u hu => ?_) ?_; rotate_left; (focus (obtain ⟨hc, hf, hr, hl, hn, hm⟩ := same_facts hu; clear hu; go_simp; first | done | with_reducible rfl)); (try simp only [Act.put, List.setIfInBounds_toArray, List.set_cons_zero, List.set_cons_succ]))
  refine seqV_nil ?_
  refine tailR_zero fun u1 hu _ => ?_
  (obtain ⟨hc3, hf3, hr3, -, -, -⟩ := same_facts hu); have lt_u1_0 : w.heap.size < u1.heap.size := (by have hh := (hu).size; (try simp at hh); omega); have lt_u1_1 : w.heap.size + 1 < u1.heap.size := (by have hh := (hu).size; (try simp at hh); omega); have lt_u1_2 : w.heap.size + 1 + 1 < u1.heap.size := (by have hh := (hu).size; (try simp at hh); omega); have lt_u1_3 : w.heap.size + 1 + 1 + 1 < u1.heap.size := (by have hh := (hu).size; (try simp at hh); omega); have lt1_u1_0 : w.heap.size < u1.heap.size + 1 := (by omega); have lt2_u1_0 : w.heap.size < u1.heap.size + 1 + 1 := (by omega); have lt1_u1_1 : w.heap.size + 1 < u1.heap.size + 1 := (by omega); have lt2_u1_1 : w.heap.size + 1 < u1.heap.size + 1 + 1 := (by omega); have lt1_u1_2 : w.heap.size + 1 + 1 < u1.heap.size + 1 := (by omega); have lt2_u1_2 : w.heap.size + 1 + 1 < u1.heap.size + 1 + 1 := (by omega); have lt1_u1_3 : w.heap.size + 1 + 1 + 1 < u1.heap.size + 1 := (by omega); have lt2_u1_3 : w.heap.size + 1 + 1 + 1 < u1.heap.size + 1 + 1 := (by omega); have rw_u1_0 := (hr3 (w.heap.size) (by (try simp); (try omega))).trans (show rowAt _ (w.heap.size) = _ by go_simp; rfl); have rw_u1_1 := (hr3 (w.heap.size + 1) (by (try simp); (try omega))).trans (show rowAt _ (w.heap.size + 1) = _ by go_simp; rfl); have rw_u1_2 := (hr3 (w.heap.size + 1 + 1) (by (try simp); (try omega))).trans (show rowAt _ (w.heap.size + 1 + 1) = _ by go_simp; rfl); have rw_u1_3 := (hr3 (w.heap.size + 1 + 1 + 1) (by (try simp); (try omega))).trans (show rowAt _ (w.heap.size + 1 + 1 + 1) = _ by go_simp; rfl); have HK3 := hidE hu; clear hu
  simp only [IntKind.wrap_u32', Int.add_emod_emod, HNX.out]
  go_wp2_with fail
  refine (HC.out _).mono ?_
  rintro e w4 ⟨rfl, hk⟩
  (obtain ⟨hc4, hf4, hr4, -, -, -⟩ := same_facts hk); have lt_w4_0 : w.heap.size < w4.heap.size := (by have hh := (hk).size; (try simp at hh); omega); have lt_w4_1 : w.heap.size + 1 < w4.heap.size := (by have hh := (hk).size; (try simp at hh); omega); have lt_w4_2 : w.heap.size + 1 + 1 < w4.heap.size := (by have hh := (hk).size; (try simp at hh); omega); have lt_w4_3 : w.heap.size + 1 + 1 + 1 < w4.heap.size := (by have hh := (hk).size; (try simp at hh); omega); have lt1_w4_0 : w.heap.size < w4.heap.size + 1 := (by omega); have lt2_w4_0 : w.heap.size < w4.heap.size + 1 + 1 := (by omega); have lt1_w4_1 : w.heap.size + 1 < w4.heap.size + 1 := (by omega); have lt2_w4_1 : w.heap.size + 1 < w4.heap.size + 1 + 1 := (by omega); have lt1_w4_2 : w.heap.size + 1 + 1 < w4.heap.size + 1 := (by omega); have lt2_w4_2 : w.heap.size + 1 + 1 < w4.heap.size + 1 + 1 := (by omega); have lt1_w4_3 : w.heap.size + 1 + 1 + 1 < w4.heap.size + 1 := (by omega); have lt2_w4_3 : w.heap.size + 1 + 1 + 1 < w4.heap.size + 1 + 1 := (by omega); have rw_w4_0 := (hr4 (w.heap.size) (by (try simp); (try omega))).trans (show rowAt _ (w.heap.size) = _ by go_simp; rfl); have rw_w4_1 := (hr4 (w.heap.size + 1) (by (try simp); (try omega))).trans (show rowAt _ (w.heap.size + 1) = _ by go_simp; rfl); have rw_w4_2 := (hr4 (w.heap.size + 1 + 1) (by (try simp); (try omega))).trans (show rowAt _ (w.heap.size + 1 + 1) = _ by go_simp; rfl); have rw_w4_3 := (hr4 (w.heap.size + 1 + 1 + 1) (by (try simp); (try omega))).trans (show rowAt _ (w.heap.size + 1 + 1 + 1) = _ by go_simp; rfl); have HK4 := hidE hk; clear hk
  go_wp2
  refine post_row2 rfl Try.underlying25 rfl infoS Try.underlying31 rfl infoF rfl rfl rfl (by go_simp; rfl) (by go_simp; rfl) (sa_size _) rfl ⟨by rw [HP.out]; first | done | rfl, ?_⟩
  (repeat (first | with_reducible exact Keeps.refl _ _ | (with_reducible refine Keeps.drew ?_) | (with_reducible refine Keeps.alloc ?_ _) | (with_reducible refine Keeps.setRow ?_ (fun h => absurd h (by omega)) _) | (with_reducible refine Keeps.setCell ?_ (fun h => absurd h (by simp only []; omega)) _) | (with_reducible refine Keeps.trans ?_ HK8.out) | (with_reducible refine same_then ?_ HK8.out (fun k hk => by omega)) | (with_reducible refine Keeps.trans ?_ HK7.out) | (with_reducible refine same_then ?_ HK7.out (fun k hk => by omega)) | (with_reducible refine Keeps.trans ?_ HK6.out) | (with_reducible refine same_then ?_ HK6.out (fun k hk => by omega)) | (with_reducible refine Keeps.trans ?_ HK5.out) | (with_reducible refine same_then ?_ HK5.out (fun k hk => by omega)) | (with_reducible refine Keeps.trans ?_ HK4.out) | (with_reducible refine same_then ?_ HK4.out (fun k hk => by omega)) | (with_reducible refine Keeps.trans ?_ HK3.out) | (with_reducible refine same_then ?_ HK3.out (fun k hk => by omega)) | (with_reducible refine Keeps.trans ?_ HK2.out) | (with_reducible refine same_then ?_ HK2.out (fun k hk => by omega)) | (with_reducible refine Keeps.trans ?_ HK1.out) | (with_reducible refine same_then ?_ HK1.out (fun k hk => by omega))))
theorem do_any (s : St) (i : In) (v : Int) (hs : s.Ok) (hi : i.Ok) (v0 : 0 ≤ v) (v1 : v < 4294967296) (w : World) :
    Calls Try.prog 17 #[.agg (stA s), .agg (inA i), .int .u32 v] w fun e w' => e = .returned (.tuple #[.agg (stA (doL s i v).1), .agg (flA (doL s i v).2)]) ∧ Same w w' := by
  obtain ⟨op, a, b, imm⟩ := i
  unfold inA
  simp only
  cases hn : noneB ⟨op, a, b, imm⟩
  · by_cases hf : (wantL s ⟨op, a, b, imm⟩).2.c = 0
    · by_cases h8 : op = 80
      · exact do_trap s op a b imm v hs hi v0 v1 hn hf h8 w
      · by_cases c0 : op < 64
        · exact do_low s op a b imm v hs hi v0 v1 hn hf c0 h8 w
        · by_cases c1 : 74 < op
          · exact do_high s op a b imm v hs hi v0 v1 hn hf c1 h8 w
          · exact do_jump s op a b imm v hs hi v0 v1 hn hf (by omega) (by omega) w
    · exact do_fault s op a b imm v hs hi v0 v1 hn hf w
  · exact do_none s op a b imm v hs hi v0 v1 hn w
end Go.Proofs.Ytdbfjgmehmbefaa
