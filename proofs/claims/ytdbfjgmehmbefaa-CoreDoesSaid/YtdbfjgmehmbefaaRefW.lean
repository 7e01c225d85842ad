/- The reference's Want. -/
import Derived.Test.YtdbfjgmehmbefaaCore10
import Derived.Test.YtdbfjgmehmbefaaMay2b
namespace Go.Proofs.Ytdbfjgmehmbefaa
open Go.RowKit
attribute [local go_sem ↓] x_ldS x_stS x_ldI x_stI x_ldA x_stA x_ldF x_stF
attribute [local go_sem] ne_s1 en_s1 ne_s2 en_s2 ne_s3 en_s3 ne_s4 en_s4 ne_s5 en_s5 ne_s6 en_s6 ne_s7 en_s7 ne_s8 en_s8 ne_s9 en_s9 ne_s10 en_s10 ne_s11 en_s11 lt_s2 lt_s3 lt_s4 lt_s5 lt_s6 lt_s7 lt_s8 lt_s9 lt_s10 lt_s11 rowAt_at rowAt_old rowAt_drew rowAt_drewN setRow_drew setRow_at setRow_old setCell_row setRow_setRow rowAt_setRow_eq rowAt_setRow_ne cell_setRow_eq cell_setRow_ne frozen_setRow_eq frozen_setRow_ne ones_lit oc_int oc_bool oc_str oc_ptr oc_sl oc_map oc_fn oc_nf oc_ni oc_if ld_S st_S ld_I st_I ld_A st_A ld_F st_F sa_size sa_one ac_size fl_size ac_one fl_one fl_c fl_a fg_c fg_a sa_pc sa_ps sg_pc sg_ps sa_r6 sa_r7 sg_r6 sg_r7 sa_r sg_r ss_pc ss_ps ss_r6 ss_r7 ss_r st0_eq

set_option maxHeartbeats 2000000 in
set_option maxRecDepth 100000 in
theorem refw_48 (s : St) (a b imm : Int) (hs : s.Ok) (b0 : 0 ≤ b) (b1 : b < 8) (a0 : 0 ≤ a) (a1 : a < 8) (hi : (⟨48, a, b, imm⟩ : In).Ok) (hm : mayB ⟨48, a, b, imm⟩ false = true) (he : ((s.R b.toNat + imm) % 4294967296) % 4 = 0) (w : World) :
    Calls Try.prog 15 #[.agg (stA s), .agg #[.int .u8 48, .int .u8 a, .int .u8 b, .int .i32 imm]] w fun e w' => e = .returned (.tuple #[.agg (acA (wishL s ⟨48, a, b, imm⟩).1), .agg (flA (wishL s ⟨48, a, b, imm⟩).2)]) ∧ Same w w' := by
  have HM : Hid (∀ w, _) := hidE (fun w => may2_any _ false hi w)
  rw [hm] at HM
  simp only [inA] at HM
  have h8 : b.toNat < 8 := by omega
  have h9 : a.toNat < 8 := by omega
  have q0 := hs.r0 7
  have q1 := hs.r1 7
  have p0 := hs.r0 a.toNat
  have p1 := hs.r1 a.toNat
  have hx : (((s.R b.toNat + imm) % 4294967296) % 4 != 0) = false := by rw [he]; rfl
  have HX := hidE he
  clear he
  clear hm hi hs
  go_enter Try.func15, Try.ntmps15
  go_wp2_with fail
  refine (HM.out _).mono ?_
  rintro e w1 ⟨rfl, hk⟩
  (obtain ⟨hc1, hf1, hr1, -, -, -⟩ := same_facts hk); have lt_w1_0 : w.heap.size < w1.heap.size := (by have hh := (hk).size; (try simp at hh); omega); have lt_w1_1 : w.heap.size + 1 < w1.heap.size := (by have hh := (hk).size; (try simp at hh); omega); have lt_w1_2 : w.heap.size + 1 + 1 < w1.heap.size := (by have hh := (hk).size; (try simp at hh); omega); have lt_w1_3 : w.heap.size + 1 + 1 + 1 < w1.heap.size := (by have hh := (hk).size; (try simp at hh); omega); have lt1_w1_0 : w.heap.size < w1.heap.size + 1 := (by omega); have lt2_w1_0 : w.heap.size < w1.heap.size + 1 + 1 := (by omega); have lt1_w1_1 : w.heap.size + 1 < w1.heap.size + 1 := (by omega); have lt2_w1_1 : w.heap.size + 1 < w1.heap.size + 1 + 1 := (by omega); have lt1_w1_2 : w.heap.size + 1 + 1 < w1.heap.size + 1 := (by omega); have lt2_w1_2 : w.heap.size + 1 + 1 < w1.heap.size + 1 + 1 := (by omega); have lt1_w1_3 : w.heap.size + 1 + 1 + 1 < w1.heap.size + 1 := (by omega); have lt2_w1_3 : w.heap.size + 1 + 1 + 1 < w1.heap.size + 1 + 1 := (by omega); have rw_w1_0 := (hr1 (w.heap.size) (by (try simp); (try omega))).trans (show rowAt _ (w.heap.size) = _ by go_simp; rfl); have rw_w1_1 := (hr1 (w.heap.size + 1) (by (try simp); (try omega))).trans (show rowAt _ (w.heap.size + 1) = _ by go_simp; rfl); have rw_w1_2 := (hr1 (w.heap.size + 1 + 1) (by (try simp); (try omega))).trans (show rowAt _ (w.heap.size + 1 + 1) = _ by go_simp; rfl); have rw_w1_3 := (hr1 (w.heap.size + 1 + 1 + 1) (by (try simp); (try omega))).trans (show rowAt _ (w.heap.size + 1 + 1 + 1) = _ by go_simp; rfl); have HK1 := hidE hk; clear hk
  go_wp2_with fail
  refine wp_region_ra [0, 1, 2, 3, 4, 5, 6, 7, 8, 9] [] 0 (Same _) (by kernel_rfl) (by kernel_rfl) (fun u u' h k => Keeps.trans h k) (Keeps.refl _ _).drew ?_
  simp only [opsOf, List.filterMap_cons, List.filterMap_nil, List.getElem?_cons_zero, List.getElem?_cons_succ]
  repeat (refine seqV_run (v := ?_) rfl (fun u hu => ?_) ?_; rotate_left; (focus (obtain ⟨hc, hf, hr, hl, hn, hm⟩ := same_facts hu; clear hu; go_simp; first | done | with_reducible rfl)); (try simp only [Act.put, List.setIfInBounds_toArray, List.set_cons_zero, List.set_cons_succ]))
  refine seqV_nil ?_
  refine tailR_zero fun u hu _ => ?_
  (obtain ⟨hc2, hf2, hr2, -, -, -⟩ := same_facts hu); have lt_u_0 : w.heap.size < u.heap.size := (by have hh := (hu).size; (try simp at hh); omega); have lt_u_1 : w.heap.size + 1 < u.heap.size := (by have hh := (hu).size; (try simp at hh); omega); have lt_u_2 : w.heap.size + 1 + 1 < u.heap.size := (by have hh := (hu).size; (try simp at hh); omega); have lt_u_3 : w.heap.size + 1 + 1 + 1 < u.heap.size := (by have hh := (hu).size; (try simp at hh); omega); have lt1_u_0 : w.heap.size < u.heap.size + 1 := (by omega); have lt2_u_0 : w.heap.size < u.heap.size + 1 + 1 := (by omega); have lt1_u_1 : w.heap.size + 1 < u.heap.size + 1 := (by omega); have lt2_u_1 : w.heap.size + 1 < u.heap.size + 1 + 1 := (by omega); have lt1_u_2 : w.heap.size + 1 + 1 < u.heap.size + 1 := (by omega); have lt2_u_2 : w.heap.size + 1 + 1 < u.heap.size + 1 + 1 := (by omega); have lt1_u_3 : w.heap.size + 1 + 1 + 1 < u.heap.size + 1 := (by omega); have lt2_u_3 : w.heap.size + 1 + 1 + 1 < u.heap.size + 1 + 1 := (by omega); have rw_u_0 := (hr2 (w.heap.size) (by (try simp); (try omega))).trans (show rowAt _ (w.heap.size) = _ by go_simp; rfl); have rw_u_1 := (hr2 (w.heap.size + 1) (by (try simp); (try omega))).trans (show rowAt _ (w.heap.size + 1) = _ by go_simp; rfl); have rw_u_2 := (hr2 (w.heap.size + 1 + 1) (by (try simp); (try omega))).trans (show rowAt _ (w.heap.size + 1 + 1) = _ by go_simp; rfl); have rw_u_3 := (hr2 (w.heap.size + 1 + 1 + 1) (by (try simp); (try omega))).trans (show rowAt _ (w.heap.size + 1 + 1 + 1) = _ by go_simp; rfl); have HK2 := hidE hu; clear hu
  simp only [IntKind.wrap_u32']
  go_wp2
  refine post_row2 rfl Try.underlying29 rfl infoA Try.underlying31 rfl infoF rfl rfl rfl (by go_simp; rfl) (by go_simp; rfl) rfl rfl ⟨?_, ?_⟩
  · unfold wishL
    rw [if_pos (by first | exact HX.out | (show _ % 1 = 0; omega))]
    rfl
  · (repeat (first | with_reducible exact Keeps.refl _ _ | (with_reducible refine Keeps.drew ?_) | (with_reducible refine Keeps.alloc ?_ _) | (with_reducible refine Keeps.setRow ?_ (fun h => absurd h (by omega)) _) | (with_reducible refine Keeps.setCell ?_ (fun h => absurd h (by simp only []; omega)) _) | (with_reducible refine Keeps.trans ?_ HK8.out) | (with_reducible refine same_then ?_ HK8.out (fun k hk => by omega)) | (with_reducible refine Keeps.trans ?_ HK7.out) | (with_reducible refine same_then ?_ HK7.out (fun k hk => by omega)) | (with_reducible refine Keeps.trans ?_ HK6.out) | (with_reducible refine same_then ?_ HK6.out (fun k hk => by omega)) | (with_reducible refine Keeps.trans ?_ HK5.out) | (with_reducible refine same_then ?_ HK5.out (fun k hk => by omega)) | (with_reducible refine Keeps.trans ?_ HK4.out) | (with_reducible refine same_then ?_ HK4.out (fun k hk => by omega)) | (with_reducible refine Keeps.trans ?_ HK3.out) | (with_reducible refine same_then ?_ HK3.out (fun k hk => by omega)) | (with_reducible refine Keeps.trans ?_ HK2.out) | (with_reducible refine same_then ?_ HK2.out (fun k hk => by omega)) | (with_reducible refine Keeps.trans ?_ HK1.out) | (with_reducible refine same_then ?_ HK1.out (fun k hk => by omega))))
set_option maxHeartbeats 2000000 in
set_option maxRecDepth 100000 in
theorem refw_48_no (s : St) (a b imm : Int) (hs : s.Ok) (b0 : 0 ≤ b) (b1 : b < 8) (a0 : 0 ≤ a) (a1 : a < 8) (hi : (⟨48, a, b, imm⟩ : In).Ok) (hm : mayB ⟨48, a, b, imm⟩ false = true) (he : ((s.R b.toNat + imm) % 4294967296) % 4 ≠ 0) (w : World) :
    Calls Try.prog 15 #[.agg (stA s), .agg #[.int .u8 48, .int .u8 a, .int .u8 b, .int .i32 imm]] w fun e w' => e = .returned (.tuple #[.agg (acA (wishL s ⟨48, a, b, imm⟩).1), .agg (flA (wishL s ⟨48, a, b, imm⟩).2)]) ∧ Same w w' := by
  have HM : Hid (∀ w, _) := hidE (fun w => may2_any _ false hi w)
  rw [hm] at HM
  simp only [inA] at HM
  have h8 : b.toNat < 8 := by omega
  have h9 : a.toNat < 8 := by omega
  have q0 := hs.r0 7
  have q1 := hs.r1 7
  have p0 := hs.r0 a.toNat
  have p1 := hs.r1 a.toNat
  have hx : (((s.R b.toNat + imm) % 4294967296) % 4 != 0) = true := bne_iff_ne.mpr he
  have HX := hidE he
  clear he
  clear hm hi hs
  go_enter Try.func15, Try.ntmps15
  go_wp2_with fail
  refine (HM.out _).mono ?_
  rintro e w1 ⟨rfl, hk⟩
  (obtain ⟨hc1, hf1, hr1, -, -, -⟩ := same_facts hk); have lt_w1_0 : w.heap.size < w1.heap.size := (by have hh := (hk).size; (try simp at hh); omega); have lt_w1_1 : w.heap.size + 1 < w1.heap.size := (by have hh := (hk).size; (try simp at hh); omega); have lt_w1_2 : w.heap.size + 1 + 1 < w1.heap.size := (by have hh := (hk).size; (try simp at hh); omega); have lt_w1_3 : w.heap.size + 1 + 1 + 1 < w1.heap.size := (by have hh := (hk).size; (try simp at hh); omega); have lt1_w1_0 : w.heap.size < w1.heap.size + 1 := (by omega); have lt2_w1_0 : w.heap.size < w1.heap.size + 1 + 1 := (by omega); have lt1_w1_1 : w.heap.size + 1 < w1.heap.size + 1 := (by omega); have lt2_w1_1 : w.heap.size + 1 < w1.heap.size + 1 + 1 := (by omega); have lt1_w1_2 : w.heap.size + 1 + 1 < w1.heap.size + 1 := (by omega); have lt2_w1_2 : w.heap.size + 1 + 1 < w1.heap.size + 1 + 1 := (by omega); have lt1_w1_3 : w.heap.size + 1 + 1 + 1 < w1.heap.size + 1 := (by omega); have lt2_w1_3 : w.heap.size + 1 + 1 + 1 < w1.heap.size + 1 + 1 := (by omega); have rw_w1_0 := (hr1 (w.heap.size) (by (try simp); (try omega))).trans (show rowAt _ (w.heap.size) = _ by go_simp; rfl); have rw_w1_1 := (hr1 (w.heap.size + 1) (by (try simp); (try omega))).trans (show rowAt _ (w.heap.size + 1) = _ by go_simp; rfl); have rw_w1_2 := (hr1 (w.heap.size + 1 + 1) (by (try simp); (try omega))).trans (show rowAt _ (w.heap.size + 1 + 1) = _ by go_simp; rfl); have rw_w1_3 := (hr1 (w.heap.size + 1 + 1 + 1) (by (try simp); (try omega))).trans (show rowAt _ (w.heap.size + 1 + 1 + 1) = _ by go_simp; rfl); have HK1 := hidE hk; clear hk
  go_wp2_with fail
  refine wp_region_ra [0, 1, 2, 3, 4, 5, 6, 7, 8, 9] [] 0 (Same _) (by kernel_rfl) (by kernel_rfl) (fun u u' h k => Keeps.trans h k) (Keeps.refl _ _).drew ?_
  simp only [opsOf, List.filterMap_cons, List.filterMap_nil, List.getElem?_cons_zero, List.getElem?_cons_succ]
  repeat (refine seqV_run (v := ?_) rfl (fun u hu => ?_) ?_; rotate_left; (focus (obtain ⟨hc, hf, hr, hl, hn, hm⟩ := same_facts hu; clear hu; go_simp; first | done | with_reducible rfl)); (try simp only [Act.put, List.setIfInBounds_toArray, List.set_cons_zero, List.set_cons_succ]))
  refine seqV_nil ?_
  refine tailR_zero fun u hu _ => ?_
  (obtain ⟨hc2, hf2, hr2, -, -, -⟩ := same_facts hu); have lt_u_0 : w.heap.size < u.heap.size := (by have hh := (hu).size; (try simp at hh); omega); have lt_u_1 : w.heap.size + 1 < u.heap.size := (by have hh := (hu).size; (try simp at hh); omega); have lt_u_2 : w.heap.size + 1 + 1 < u.heap.size := (by have hh := (hu).size; (try simp at hh); omega); have lt_u_3 : w.heap.size + 1 + 1 + 1 < u.heap.size := (by have hh := (hu).size; (try simp at hh); omega); have lt1_u_0 : w.heap.size < u.heap.size + 1 := (by omega); have lt2_u_0 : w.heap.size < u.heap.size + 1 + 1 := (by omega); have lt1_u_1 : w.heap.size + 1 < u.heap.size + 1 := (by omega); have lt2_u_1 : w.heap.size + 1 < u.heap.size + 1 + 1 := (by omega); have lt1_u_2 : w.heap.size + 1 + 1 < u.heap.size + 1 := (by omega); have lt2_u_2 : w.heap.size + 1 + 1 < u.heap.size + 1 + 1 := (by omega); have lt1_u_3 : w.heap.size + 1 + 1 + 1 < u.heap.size + 1 := (by omega); have lt2_u_3 : w.heap.size + 1 + 1 + 1 < u.heap.size + 1 + 1 := (by omega); have rw_u_0 := (hr2 (w.heap.size) (by (try simp); (try omega))).trans (show rowAt _ (w.heap.size) = _ by go_simp; rfl); have rw_u_1 := (hr2 (w.heap.size + 1) (by (try simp); (try omega))).trans (show rowAt _ (w.heap.size + 1) = _ by go_simp; rfl); have rw_u_2 := (hr2 (w.heap.size + 1 + 1) (by (try simp); (try omega))).trans (show rowAt _ (w.heap.size + 1 + 1) = _ by go_simp; rfl); have rw_u_3 := (hr2 (w.heap.size + 1 + 1 + 1) (by (try simp); (try omega))).trans (show rowAt _ (w.heap.size + 1 + 1 + 1) = _ by go_simp; rfl); have HK2 := hidE hu; clear hu
  simp only [IntKind.wrap_u32']
  go_wp2
  refine post_row2 rfl Try.underlying29 rfl infoA Try.underlying31 rfl infoF rfl rfl rfl (by go_simp; rfl) (by go_simp; rfl) rfl rfl ⟨?_, ?_⟩
  · unfold wishL
    rw [if_neg (by first | exact HX.out | (show _ % 1 = 0; omega))]
    rfl
  · (repeat (first | with_reducible exact Keeps.refl _ _ | (with_reducible refine Keeps.drew ?_) | (with_reducible refine Keeps.alloc ?_ _) | (with_reducible refine Keeps.setRow ?_ (fun h => absurd h (by omega)) _) | (with_reducible refine Keeps.setCell ?_ (fun h => absurd h (by simp only []; omega)) _) | (with_reducible refine Keeps.trans ?_ HK8.out) | (with_reducible refine same_then ?_ HK8.out (fun k hk => by omega)) | (with_reducible refine Keeps.trans ?_ HK7.out) | (with_reducible refine same_then ?_ HK7.out (fun k hk => by omega)) | (with_reducible refine Keeps.trans ?_ HK6.out) | (with_reducible refine same_then ?_ HK6.out (fun k hk => by omega)) | (with_reducible refine Keeps.trans ?_ HK5.out) | (with_reducible refine same_then ?_ HK5.out (fun k hk => by omega)) | (with_reducible refine Keeps.trans ?_ HK4.out) | (with_reducible refine same_then ?_ HK4.out (fun k hk => by omega)) | (with_reducible refine Keeps.trans ?_ HK3.out) | (with_reducible refine same_then ?_ HK3.out (fun k hk => by omega)) | (with_reducible refine Keeps.trans ?_ HK2.out) | (with_reducible refine same_then ?_ HK2.out (fun k hk => by omega)) | (with_reducible refine Keeps.trans ?_ HK1.out) | (with_reducible refine same_then ?_ HK1.out (fun k hk => by omega))))
set_option maxHeartbeats 2000000 in
set_option maxRecDepth 100000 in
theorem refw_49 (s : St) (a b imm : Int) (hs : s.Ok) (b0 : 0 ≤ b) (b1 : b < 8) (a0 : 0 ≤ a) (a1 : a < 8) (hi : (⟨49, a, b, imm⟩ : In).Ok) (hm : mayB ⟨49, a, b, imm⟩ false = true) (he : ((s.R b.toNat + imm) % 4294967296) % 4 = 0) (w : World) :
    Calls Try.prog 15 #[.agg (stA s), .agg #[.int .u8 49, .int .u8 a, .int .u8 b, .int .i32 imm]] w fun e w' => e = .returned (.tuple #[.agg (acA (wishL s ⟨49, a, b, imm⟩).1), .agg (flA (wishL s ⟨49, a, b, imm⟩).2)]) ∧ Same w w' := by
  have HM : Hid (∀ w, _) := hidE (fun w => may2_any _ false hi w)
  rw [hm] at HM
  simp only [inA] at HM
  have h8 : b.toNat < 8 := by omega
  have h9 : a.toNat < 8 := by omega
  have q0 := hs.r0 7
  have q1 := hs.r1 7
  have p0 := hs.r0 a.toNat
  have p1 := hs.r1 a.toNat
  have hx : (((s.R b.toNat + imm) % 4294967296) % 4 != 0) = false := by rw [he]; rfl
  have HX := hidE he
  clear he
  clear hm hi hs
  go_enter Try.func15, Try.ntmps15
  go_wp2_with fail
  refine (HM.out _).mono ?_
  rintro e w1 ⟨rfl, hk⟩
  (obtain ⟨hc1, hf1, hr1, -, -, -⟩ := same_facts hk); have lt_w1_0 : w.heap.size < w1.heap.size := (by have hh := (hk).size; (try simp at hh); omega); have lt_w1_1 : w.heap.size + 1 < w1.heap.size := (by have hh := (hk).size; (try simp at hh); omega); have lt_w1_2 : w.heap.size + 1 + 1 < w1.heap.size := (by have hh := (hk).size; (try simp at hh); omega); have lt_w1_3 : w.heap.size + 1 + 1 + 1 < w1.heap.size := (by have hh := (hk).size; (try simp at hh); omega); have lt1_w1_0 : w.heap.size < w1.heap.size + 1 := (by omega); have lt2_w1_0 : w.heap.size < w1.heap.size + 1 + 1 := (by omega); have lt1_w1_1 : w.heap.size + 1 < w1.heap.size + 1 := (by omega); have lt2_w1_1 : w.heap.size + 1 < w1.heap.size + 1 + 1 := (by omega); have lt1_w1_2 : w.heap.size + 1 + 1 < w1.heap.size + 1 := (by omega); have lt2_w1_2 : w.heap.size + 1 + 1 < w1.heap.size + 1 + 1 := (by omega); have lt1_w1_3 : w.heap.size + 1 + 1 + 1 < w1.heap.size + 1 := (by omega); have lt2_w1_3 : w.heap.size + 1 + 1 + 1 < w1.heap.size + 1 + 1 := (by omega); have rw_w1_0 := (hr1 (w.heap.size) (by (try simp); (try omega))).trans (show rowAt _ (w.heap.size) = _ by go_simp; rfl); have rw_w1_1 := (hr1 (w.heap.size + 1) (by (try simp); (try omega))).trans (show rowAt _ (w.heap.size + 1) = _ by go_simp; rfl); have rw_w1_2 := (hr1 (w.heap.size + 1 + 1) (by (try simp); (try omega))).trans (show rowAt _ (w.heap.size + 1 + 1) = _ by go_simp; rfl); have rw_w1_3 := (hr1 (w.heap.size + 1 + 1 + 1) (by (try simp); (try omega))).trans (show rowAt _ (w.heap.size + 1 + 1 + 1) = _ by go_simp; rfl); have HK1 := hidE hk; clear hk
  go_wp2_with fail
  refine wp_region_ra [0, 1, 2, 3, 4, 5, 6, 7, 8, 9] [] 0 (Same _) (by kernel_rfl) (by kernel_rfl) (fun u u' h k => Keeps.trans h k) (Keeps.refl _ _).drew ?_
  simp only [opsOf, List.filterMap_cons, List.filterMap_nil, List.getElem?_cons_zero, List.getElem?_cons_succ]
  repeat (refine seqV_run (v := ?_) rfl (fun u hu => ?_) ?_; rotate_left; (focus (obtain ⟨hc, hf, hr, hl, hn, hm⟩ := same_facts hu; clear hu; go_simp; first | done | with_reducible rfl)); (try simp only [Act.put, List.setIfInBounds_toArray, List.set_cons_zero, List.set_cons_succ]))
  refine seqV_nil ?_
  refine tailR_zero fun u hu _ => ?_
  (obtain ⟨hc2, hf2, hr2, -, -, -⟩ := same_facts hu); have lt_u_0 : w.heap.size < u.heap.size := (by have hh := (hu).size; (try simp at hh); omega); have lt_u_1 : w.heap.size + 1 < u.heap.size := (by have hh := (hu).size; (try simp at hh); omega); have lt_u_2 : w.heap.size + 1 + 1 < u.heap.size := (by have hh := (hu).size; (try simp at hh); omega); have lt_u_3 : w.heap.size + 1 + 1 + 1 < u.heap.size := (by have hh := (hu).size; (try simp at hh); omega); have lt1_u_0 : w.heap.size < u.heap.size + 1 := (by omega); have lt2_u_0 : w.heap.size < u.heap.size + 1 + 1 := (by omega); have lt1_u_1 : w.heap.size + 1 < u.heap.size + 1 := (by omega); have lt2_u_1 : w.heap.size + 1 < u.heap.size + 1 + 1 := (by omega); have lt1_u_2 : w.heap.size + 1 + 1 < u.heap.size + 1 := (by omega); have lt2_u_2 : w.heap.size + 1 + 1 < u.heap.size + 1 + 1 := (by omega); have lt1_u_3 : w.heap.size + 1 + 1 + 1 < u.heap.size + 1 := (by omega); have lt2_u_3 : w.heap.size + 1 + 1 + 1 < u.heap.size + 1 + 1 := (by omega); have rw_u_0 := (hr2 (w.heap.size) (by (try simp); (try omega))).trans (show rowAt _ (w.heap.size) = _ by go_simp; rfl); have rw_u_1 := (hr2 (w.heap.size + 1) (by (try simp); (try omega))).trans (show rowAt _ (w.heap.size + 1) = _ by go_simp; rfl); have rw_u_2 := (hr2 (w.heap.size + 1 + 1) (by (try simp); (try omega))).trans (show rowAt _ (w.heap.size + 1 + 1) = _ by go_simp; rfl); have rw_u_3 := (hr2 (w.heap.size + 1 + 1 + 1) (by (try simp); (try omega))).trans (show rowAt _ (w.heap.size + 1 + 1 + 1) = _ by go_simp; rfl); have HK2 := hidE hu; clear hu
  simp only [IntKind.wrap_u32']
  go_wp2
  refine post_row2 rfl Try.underlying29 rfl infoA Try.underlying31 rfl infoF rfl rfl rfl (by go_simp; rfl) (by go_simp; rfl) rfl rfl ⟨?_, ?_⟩
  · unfold wishL
    rw [if_pos (by first | exact HX.out | (show _ % 1 = 0; omega))]
    rfl
  · (repeat (first | with_reducible exact Keeps.refl _ _ | (with_reducible refine Keeps.drew ?_) | (with_reducible refine Keeps.alloc ?_ _) | (with_reducible refine Keeps.setRow ?_ (fun h => absurd h (by omega)) _) | (with_reducible refine Keeps.setCell ?_ (fun h => absurd h (by simp only []; omega)) _) | (with_reducible refine Keeps.trans ?_ HK8.out) | (with_reducible refine same_then ?_ HK8.out (fun k hk => by omega)) | (with_reducible refine Keeps.trans ?_ HK7.out) | (with_reducible refine same_then ?_ HK7.out (fun k hk => by omega)) | (with_reducible refine Keeps.trans ?_ HK6.out) | (with_reducible refine same_then ?_ HK6.out (fun k hk => by omega)) | (with_reducible refine Keeps.trans ?_ HK5.out) | (with_reducible refine same_then ?_ HK5.out (fun k hk => by omega)) | (with_reducible refine Keeps.trans ?_ HK4.out) | (with_reducible refine same_then ?_ HK4.out (fun k hk => by omega)) | (with_reducible refine Keeps.trans ?_ HK3.out) | (with_reducible refine same_then ?_ HK3.out (fun k hk => by omega)) | (with_reducible refine Keeps.trans ?_ HK2.out) | (with_reducible refine same_then ?_ HK2.out (fun k hk => by omega)) | (with_reducible refine Keeps.trans ?_ HK1.out) | (with_reducible refine same_then ?_ HK1.out (fun k hk => by omega))))
set_option maxHeartbeats 2000000 in
set_option maxRecDepth 100000 in
theorem refw_49_no (s : St) (a b imm : Int) (hs : s.Ok) (b0 : 0 ≤ b) (b1 : b < 8) (a0 : 0 ≤ a) (a1 : a < 8) (hi : (⟨49, a, b, imm⟩ : In).Ok) (hm : mayB ⟨49, a, b, imm⟩ false = true) (he : ((s.R b.toNat + imm) % 4294967296) % 4 ≠ 0) (w : World) :
    Calls Try.prog 15 #[.agg (stA s), .agg #[.int .u8 49, .int .u8 a, .int .u8 b, .int .i32 imm]] w fun e w' => e = .returned (.tuple #[.agg (acA (wishL s ⟨49, a, b, imm⟩).1), .agg (flA (wishL s ⟨49, a, b, imm⟩).2)]) ∧ Same w w' := by
  have HM : Hid (∀ w, _) := hidE (fun w => may2_any _ false hi w)
  rw [hm] at HM
  simp only [inA] at HM
  have h8 : b.toNat < 8 := by omega
  have h9 : a.toNat < 8 := by omega
  have q0 := hs.r0 7
  have q1 := hs.r1 7
  have p0 := hs.r0 a.toNat
  have p1 := hs.r1 a.toNat
  have hx : (((s.R b.toNat + imm) % 4294967296) % 4 != 0) = true := bne_iff_ne.mpr he
  have HX := hidE he
  clear he
  clear hm hi hs
  go_enter Try.func15, Try.ntmps15
  go_wp2_with fail
  refine (HM.out _).mono ?_
  rintro e w1 ⟨rfl, hk⟩
  (obtain ⟨hc1, hf1, hr1, -, -, -⟩ := same_facts hk); have lt_w1_0 : w.heap.size < w1.heap.size := (by have hh := (hk).size; (try simp at hh); omega); have lt_w1_1 : w.heap.size + 1 < w1.heap.size := (by have hh := (hk).size; (try simp at hh); omega); have lt_w1_2 : w.heap.size + 1 + 1 < w1.heap.size := (by have hh := (hk).size; (try simp at hh); omega); have lt_w1_3 : w.heap.size + 1 + 1 + 1 < w1.heap.size := (by have hh := (hk).size; (try simp at hh); omega); have lt1_w1_0 : w.heap.size < w1.heap.size + 1 := (by omega); have lt2_w1_0 : w.heap.size < w1.heap.size + 1 + 1 := (by omega); have lt1_w1_1 : w.heap.size + 1 < w1.heap.size + 1 := (by omega); have lt2_w1_1 : w.heap.size + 1 < w1.heap.size + 1 + 1 := (by omega); have lt1_w1_2 : w.heap.size + 1 + 1 < w1.heap.size + 1 := (by omega); have lt2_w1_2 : w.heap.size + 1 + 1 < w1.heap.size + 1 + 1 := (by omega); have lt1_w1_3 : w.heap.size + 1 + 1 + 1 < w1.heap.size + 1 := (by omega); have lt2_w1_3 : w.heap.size + 1 + 1 + 1 < w1.heap.size + 1 + 1 := (by omega); have rw_w1_0 := (hr1 (w.heap.size) (by (try simp); (try omega))).trans (show rowAt _ (w.heap.size) = _ by go_simp; rfl); have rw_w1_1 := (hr1 (w.heap.size + 1) (by (try simp); (try omega))).trans (show rowAt _ (w.heap.size + 1) = _ by go_simp; rfl); have rw_w1_2 := (hr1 (w.heap.size + 1 + 1) (by (try simp); (try omega))).trans (show rowAt _ (w.heap.size + 1 + 1) = _ by go_simp; rfl); have rw_w1_3 := (hr1 (w.heap.size + 1 + 1 + 1) (by (try simp); (try omega))).trans (show rowAt _ (w.heap.size + 1 + 1 + 1) = _ by go_simp; rfl); have HK1 := hidE hk; clear hk
  go_wp2_with fail
  refine wp_region_ra [0, 1, 2, 3, 4, 5, 6, 7, 8, 9] [] 0 (Same _) (by kernel_rfl) (by kernel_rfl) (fun u u' h k => Keeps.trans h k) (Keeps.refl _ _).drew ?_
  simp only [opsOf, List.filterMap_cons, List.filterMap_nil, List.getElem?_cons_zero, List.getElem?_cons_succ]
  repeat (refine seqV_run (v := ?_) rfl (fun u hu => ?_) ?_; rotate_left; (focus (obtain ⟨hc, hf, hr, hl, hn, hm⟩ := same_facts hu; clear hu; go_simp; first | done | with_reducible rfl)); (try simp only [Act.put, List.setIfInBounds_toArray, List.set_cons_zero, List.set_cons_succ]))
  refine seqV_nil ?_
  refine tailR_zero fun u hu _ => ?_
  (obtain ⟨hc2, hf2, hr2, -, -, -⟩ := same_facts hu); have lt_u_0 : w.heap.size < u.heap.size := (by have hh := (hu).size; (try simp at hh); omega); have lt_u_1 : w.heap.size + 1 < u.heap.size := (by have hh := (hu).size; (try simp at hh); omega); have lt_u_2 : w.heap.size + 1 + 1 < u.heap.size := (by have hh := (hu).size; (try simp at hh); omega); have lt_u_3 : w.heap.size + 1 + 1 + 1 < u.heap.size := (by have hh := (hu).size; (try simp at hh); omega); have lt1_u_0 : w.heap.size < u.heap.size + 1 := (by omega); have lt2_u_0 : w.heap.size < u.heap.size + 1 + 1 := (by omega); have lt1_u_1 : w.heap.size + 1 < u.heap.size + 1 := (by omega); have lt2_u_1 : w.heap.size + 1 < u.heap.size + 1 + 1 := (by omega); have lt1_u_2 : w.heap.size + 1 + 1 < u.heap.size + 1 := (by omega); have lt2_u_2 : w.heap.size + 1 + 1 < u.heap.size + 1 + 1 := (by omega); have lt1_u_3 : w.heap.size + 1 + 1 + 1 < u.heap.size + 1 := (by omega); have lt2_u_3 : w.heap.size + 1 + 1 + 1 < u.heap.size + 1 + 1 := (by omega); have rw_u_0 := (hr2 (w.heap.size) (by (try simp); (try omega))).trans (show rowAt _ (w.heap.size) = _ by go_simp; rfl); have rw_u_1 := (hr2 (w.heap.size + 1) (by (try simp); (try omega))).trans (show rowAt _ (w.heap.size + 1) = _ by go_simp; rfl); have rw_u_2 := (hr2 (w.heap.size + 1 + 1) (by (try simp); (try omega))).trans (show rowAt _ (w.heap.size + 1 + 1) = _ by go_simp; rfl); have rw_u_3 := (hr2 (w.heap.size + 1 + 1 + 1) (by (try simp); (try omega))).trans (show rowAt _ (w.heap.size + 1 + 1 + 1) = _ by go_simp; rfl); have HK2 := hidE hu; clear hu
  simp only [IntKind.wrap_u32']
  go_wp2
  refine post_row2 rfl Try.underlying29 rfl infoA Try.underlying31 rfl infoF rfl rfl rfl (by go_simp; rfl) (by go_simp; rfl) rfl rfl ⟨?_, ?_⟩
  · unfold wishL
    rw [if_neg (by first | exact HX.out | (show _ % 1 = 0; omega))]
    rfl
  · (repeat (first | with_reducible exact Keeps.refl _ _ | (with_reducible refine Keeps.drew ?_) | (with_reducible refine Keeps.alloc ?_ _) | (with_reducible refine Keeps.setRow ?_ (fun h => absurd h (by omega)) _) | (with_reducible refine Keeps.setCell ?_ (fun h => absurd h (by simp only []; omega)) _) | (with_reducible refine Keeps.trans ?_ HK8.out) | (with_reducible refine same_then ?_ HK8.out (fun k hk => by omega)) | (with_reducible refine Keeps.trans ?_ HK7.out) | (with_reducible refine same_then ?_ HK7.out (fun k hk => by omega)) | (with_reducible refine Keeps.trans ?_ HK6.out) | (with_reducible refine same_then ?_ HK6.out (fun k hk => by omega)) | (with_reducible refine Keeps.trans ?_ HK5.out) | (with_reducible refine same_then ?_ HK5.out (fun k hk => by omega)) | (with_reducible refine Keeps.trans ?_ HK4.out) | (with_reducible refine same_then ?_ HK4.out (fun k hk => by omega)) | (with_reducible refine Keeps.trans ?_ HK3.out) | (with_reducible refine same_then ?_ HK3.out (fun k hk => by omega)) | (with_reducible refine Keeps.trans ?_ HK2.out) | (with_reducible refine same_then ?_ HK2.out (fun k hk => by omega)) | (with_reducible refine Keeps.trans ?_ HK1.out) | (with_reducible refine same_then ?_ HK1.out (fun k hk => by omega))))
set_option maxHeartbeats 2000000 in
set_option maxRecDepth 100000 in
theorem refw_50 (s : St) (a b imm : Int) (hs : s.Ok) (b0 : 0 ≤ b) (b1 : b < 8) (a0 : 0 ≤ a) (a1 : a < 8) (hi : (⟨50, a, b, imm⟩ : In).Ok) (hm : mayB ⟨50, a, b, imm⟩ false = true) (w : World) :
    Calls Try.prog 15 #[.agg (stA s), .agg #[.int .u8 50, .int .u8 a, .int .u8 b, .int .i32 imm]] w fun e w' => e = .returned (.tuple #[.agg (acA (wishL s ⟨50, a, b, imm⟩).1), .agg (flA (wishL s ⟨50, a, b, imm⟩).2)]) ∧ Same w w' := by
  have HM : Hid (∀ w, _) := hidE (fun w => may2_any _ false hi w)
  rw [hm] at HM
  simp only [inA] at HM
  have h8 : b.toNat < 8 := by omega
  have h9 : a.toNat < 8 := by omega
  have q0 := hs.r0 7
  have q1 := hs.r1 7
  have p0 := hs.r0 a.toNat
  have p1 := hs.r1 a.toNat
  clear hm hi hs
  go_enter Try.func15, Try.ntmps15
  go_wp2_with fail
  refine (HM.out _).mono ?_
  rintro e w1 ⟨rfl, hk⟩
  (obtain ⟨hc1, hf1, hr1, -, -, -⟩ := same_facts hk); have lt_w1_0 : w.heap.size < w1.heap.size := (by have hh := (hk).size; (try simp at hh); omega); have lt_w1_1 : w.heap.size + 1 < w1.heap.size := (by have hh := (hk).size; (try simp at hh); omega); have lt_w1_2 : w.heap.size + 1 + 1 < w1.heap.size := (by have hh := (hk).size; (try simp at hh); omega); have lt_w1_3 : w.heap.size + 1 + 1 + 1 < w1.heap.size := (by have hh := (hk).size; (try simp at hh); omega); have lt1_w1_0 : w.heap.size < w1.heap.size + 1 := (by omega); have lt2_w1_0 : w.heap.size < w1.heap.size + 1 + 1 := (by omega); have lt1_w1_1 : w.heap.size + 1 < w1.heap.size + 1 := (by omega); have lt2_w1_1 : w.heap.size + 1 < w1.heap.size + 1 + 1 := (by omega); have lt1_w1_2 : w.heap.size + 1 + 1 < w1.heap.size + 1 := (by omega); have lt2_w1_2 : w.heap.size + 1 + 1 < w1.heap.size + 1 + 1 := (by omega); have lt1_w1_3 : w.heap.size + 1 + 1 + 1 < w1.heap.size + 1 := (by omega); have lt2_w1_3 : w.heap.size + 1 + 1 + 1 < w1.heap.size + 1 + 1 := (by omega); have rw_w1_0 := (hr1 (w.heap.size) (by (try simp); (try omega))).trans (show rowAt _ (w.heap.size) = _ by go_simp; rfl); have rw_w1_1 := (hr1 (w.heap.size + 1) (by (try simp); (try omega))).trans (show rowAt _ (w.heap.size + 1) = _ by go_simp; rfl); have rw_w1_2 := (hr1 (w.heap.size + 1 + 1) (by (try simp); (try omega))).trans (show rowAt _ (w.heap.size + 1 + 1) = _ by go_simp; rfl); have rw_w1_3 := (hr1 (w.heap.size + 1 + 1 + 1) (by (try simp); (try omega))).trans (show rowAt _ (w.heap.size + 1 + 1 + 1) = _ by go_simp; rfl); have HK1 := hidE hk; clear hk
  go_wp2_with fail
  refine wp_region_ra [0, 1, 2, 3, 4, 5, 6, 7, 8, 9] [] 0 (Same _) (by kernel_rfl) (by kernel_rfl) (fun u u' h k => Keeps.trans h k) (Keeps.refl _ _).drew ?_
  simp only [opsOf, List.filterMap_cons, List.filterMap_nil, List.getElem?_cons_zero, List.getElem?_cons_succ]
  repeat (refine seqV_run (v := ?_) rfl (fun u hu => ?_) ?_; rotate_left; (focus (obtain ⟨hc, hf, hr, hl, hn, hm⟩ := same_facts hu; clear hu; go_simp; first | done | with_reducible rfl)); (try simp only [Act.put, List.setIfInBounds_toArray, List.set_cons_zero, List.set_cons_succ]))
  refine seqV_nil ?_
  refine tailR_zero fun u hu _ => ?_
  (obtain ⟨hc2, hf2, hr2, -, -, -⟩ := same_facts hu); have lt_u_0 : w.heap.size < u.heap.size := (by have hh := (hu).size; (try simp at hh); omega); have lt_u_1 : w.heap.size + 1 < u.heap.size := (by have hh := (hu).size; (try simp at hh); omega); have lt_u_2 : w.heap.size + 1 + 1 < u.heap.size := (by have hh := (hu).size; (try simp at hh); omega); have lt_u_3 : w.heap.size + 1 + 1 + 1 < u.heap.size := (by have hh := (hu).size; (try simp at hh); omega); have lt1_u_0 : w.heap.size < u.heap.size + 1 := (by omega); have lt2_u_0 : w.heap.size < u.heap.size + 1 + 1 := (by omega); have lt1_u_1 : w.heap.size + 1 < u.heap.size + 1 := (by omega); have lt2_u_1 : w.heap.size + 1 < u.heap.size + 1 + 1 := (by omega); have lt1_u_2 : w.heap.size + 1 + 1 < u.heap.size + 1 := (by omega); have lt2_u_2 : w.heap.size + 1 + 1 < u.heap.size + 1 + 1 := (by omega); have lt1_u_3 : w.heap.size + 1 + 1 + 1 < u.heap.size + 1 := (by omega); have lt2_u_3 : w.heap.size + 1 + 1 + 1 < u.heap.size + 1 + 1 := (by omega); have rw_u_0 := (hr2 (w.heap.size) (by (try simp); (try omega))).trans (show rowAt _ (w.heap.size) = _ by go_simp; rfl); have rw_u_1 := (hr2 (w.heap.size + 1) (by (try simp); (try omega))).trans (show rowAt _ (w.heap.size + 1) = _ by go_simp; rfl); have rw_u_2 := (hr2 (w.heap.size + 1 + 1) (by (try simp); (try omega))).trans (show rowAt _ (w.heap.size + 1 + 1) = _ by go_simp; rfl); have rw_u_3 := (hr2 (w.heap.size + 1 + 1 + 1) (by (try simp); (try omega))).trans (show rowAt _ (w.heap.size + 1 + 1 + 1) = _ by go_simp; rfl); have HK2 := hidE hu; clear hu
  simp only [IntKind.wrap_u32']
  go_wp2
  refine post_row2 rfl Try.underlying29 rfl infoA Try.underlying31 rfl infoF rfl rfl rfl (by go_simp; rfl) (by go_simp; rfl) rfl rfl ⟨?_, ?_⟩
  · unfold wishL
    rw [if_pos (by first | exact HX.out | (show _ % 1 = 0; omega))]
    rfl
  · (repeat (first | with_reducible exact Keeps.refl _ _ | (with_reducible refine Keeps.drew ?_) | (with_reducible refine Keeps.alloc ?_ _) | (with_reducible refine Keeps.setRow ?_ (fun h => absurd h (by omega)) _) | (with_reducible refine Keeps.setCell ?_ (fun h => absurd h (by simp only []; omega)) _) | (with_reducible refine Keeps.trans ?_ HK8.out) | (with_reducible refine same_then ?_ HK8.out (fun k hk => by omega)) | (with_reducible refine Keeps.trans ?_ HK7.out) | (with_reducible refine same_then ?_ HK7.out (fun k hk => by omega)) | (with_reducible refine Keeps.trans ?_ HK6.out) | (with_reducible refine same_then ?_ HK6.out (fun k hk => by omega)) | (with_reducible refine Keeps.trans ?_ HK5.out) | (with_reducible refine same_then ?_ HK5.out (fun k hk => by omega)) | (with_reducible refine Keeps.trans ?_ HK4.out) | (with_reducible refine same_then ?_ HK4.out (fun k hk => by omega)) | (with_reducible refine Keeps.trans ?_ HK3.out) | (with_reducible refine same_then ?_ HK3.out (fun k hk => by omega)) | (with_reducible refine Keeps.trans ?_ HK2.out) | (with_reducible refine same_then ?_ HK2.out (fun k hk => by omega)) | (with_reducible refine Keeps.trans ?_ HK1.out) | (with_reducible refine same_then ?_ HK1.out (fun k hk => by omega))))
set_option maxHeartbeats 2000000 in
set_option maxRecDepth 100000 in
theorem refw_51 (s : St) (a b imm : Int) (hs : s.Ok) (b0 : 0 ≤ b) (b1 : b < 8) (a0 : 0 ≤ a) (a1 : a < 8) (hi : (⟨51, a, b, imm⟩ : In).Ok) (hm : mayB ⟨51, a, b, imm⟩ false = true) (w : World) :
    Calls Try.prog 15 #[.agg (stA s), .agg #[.int .u8 51, .int .u8 a, .int .u8 b, .int .i32 imm]] w fun e w' => e = .returned (.tuple #[.agg (acA (wishL s ⟨51, a, b, imm⟩).1), .agg (flA (wishL s ⟨51, a, b, imm⟩).2)]) ∧ Same w w' := by
  have HM : Hid (∀ w, _) := hidE (fun w => may2_any _ false hi w)
  rw [hm] at HM
  simp only [inA] at HM
  have h8 : b.toNat < 8 := by omega
  have h9 : a.toNat < 8 := by omega
  have q0 := hs.r0 7
  have q1 := hs.r1 7
  have p0 := hs.r0 a.toNat
  have p1 := hs.r1 a.toNat
  clear hm hi hs
  go_enter Try.func15, Try.ntmps15
  go_wp2_with fail
  refine (HM.out _).mono ?_
  rintro e w1 ⟨rfl, hk⟩
  (obtain ⟨hc1, hf1, hr1, -, -, -⟩ := same_facts hk); have lt_w1_0 : w.heap.size < w1.heap.size := (by have hh := (hk).size; (try simp at hh); omega); have lt_w1_1 : w.heap.size + 1 < w1.heap.size := (by have hh := (hk).size; (try simp at hh); omega); have lt_w1_2 : w.heap.size + 1 + 1 < w1.heap.size := (by have hh := (hk).size; (try simp at hh); omega); have lt_w1_3 : w.heap.size + 1 + 1 + 1 < w1.heap.size := (by have hh := (hk).size; (try simp at hh); omega); have lt1_w1_0 : w.heap.size < w1.heap.size + 1 := (by omega); have lt2_w1_0 : w.heap.size < w1.heap.size + 1 + 1 := (by omega); have lt1_w1_1 : w.heap.size + 1 < w1.heap.size + 1 := (by omega); have lt2_w1_1 : w.heap.size + 1 < w1.heap.size + 1 + 1 := (by omega); have lt1_w1_2 : w.heap.size + 1 + 1 < w1.heap.size + 1 := (by omega); have lt2_w1_2 : w.heap.size + 1 + 1 < w1.heap.size + 1 + 1 := (by omega); have lt1_w1_3 : w.heap.size + 1 + 1 + 1 < w1.heap.size + 1 := (by omega); have lt2_w1_3 : w.heap.size + 1 + 1 + 1 < w1.heap.size + 1 + 1 := (by omega); have rw_w1_0 := (hr1 (w.heap.size) (by (try simp); (try omega))).trans (show rowAt _ (w.heap.size) = _ by go_simp; rfl); have rw_w1_1 := (hr1 (w.heap.size + 1) (by (try simp); (try omega))).trans (show rowAt _ (w.heap.size + 1) = _ by go_simp; rfl); have rw_w1_2 := (hr1 (w.heap.size + 1 + 1) (by (try simp); (try omega))).trans (show rowAt _ (w.heap.size + 1 + 1) = _ by go_simp; rfl); have rw_w1_3 := (hr1 (w.heap.size + 1 + 1 + 1) (by (try simp); (try omega))).trans (show rowAt _ (w.heap.size + 1 + 1 + 1) = _ by go_simp; rfl); have HK1 := hidE hk; clear hk
  go_wp2_with fail
  refine wp_region_ra [0, 1, 2, 3, 4, 5, 6, 7, 8, 9] [] 0 (Same _) (by kernel_rfl) (by kernel_rfl) (fun u u' h k => Keeps.trans h k) (Keeps.refl _ _).drew ?_
  simp only [opsOf, List.filterMap_cons, List.filterMap_nil, List.getElem?_cons_zero, List.getElem?_cons_succ]
  repeat (refine seqV_run (v := ?_) rfl (fun u hu => ?_) ?_; rotate_left; (focus (obtain ⟨hc, hf, hr, hl, hn, hm⟩ := same_facts hu; clear hu; go_simp; first | done | with_reducible rfl)); (try simp only [Act.put, List.setIfInBounds_toArray, List.set_cons_zero, List.set_cons_succ]))
  refine seqV_nil ?_
  refine tailR_zero fun u hu _ => ?_
  (obtain ⟨hc2, hf2, hr2, -, -, -⟩ := same_facts hu); have lt_u_0 : w.heap.size < u.heap.size := (by have hh := (hu).size; (try simp at hh); omega); have lt_u_1 : w.heap.size + 1 < u.heap.size := (by have hh := (hu).size; (try simp at hh); omega); have lt_u_2 : w.heap.size + 1 + 1 < u.heap.size := (by have hh := (hu).size; (try simp at hh); omega); have lt_u_3 : w.heap.size + 1 + 1 + 1 < u.heap.size := (by have hh := (hu).size; (try simp at hh); omega); have lt1_u_0 : w.heap.size < u.heap.size + 1 := (by omega); have lt2_u_0 : w.heap.size < u.heap.size + 1 + 1 := (by omega); have lt1_u_1 : w.heap.size + 1 < u.heap.size + 1 := (by omega); have lt2_u_1 : w.heap.size + 1 < u.heap.size + 1 + 1 := (by omega); have lt1_u_2 : w.heap.size + 1 + 1 < u.heap.size + 1 := (by omega); have lt2_u_2 : w.heap.size + 1 + 1 < u.heap.size + 1 + 1 := (by omega); have lt1_u_3 : w.heap.size + 1 + 1 + 1 < u.heap.size + 1 := (by omega); have lt2_u_3 : w.heap.size + 1 + 1 + 1 < u.heap.size + 1 + 1 := (by omega); have rw_u_0 := (hr2 (w.heap.size) (by (try simp); (try omega))).trans (show rowAt _ (w.heap.size) = _ by go_simp; rfl); have rw_u_1 := (hr2 (w.heap.size + 1) (by (try simp); (try omega))).trans (show rowAt _ (w.heap.size + 1) = _ by go_simp; rfl); have rw_u_2 := (hr2 (w.heap.size + 1 + 1) (by (try simp); (try omega))).trans (show rowAt _ (w.heap.size + 1 + 1) = _ by go_simp; rfl); have rw_u_3 := (hr2 (w.heap.size + 1 + 1 + 1) (by (try simp); (try omega))).trans (show rowAt _ (w.heap.size + 1 + 1 + 1) = _ by go_simp; rfl); have HK2 := hidE hu; clear hu
  simp only [IntKind.wrap_u32']
  go_wp2
  refine post_row2 rfl Try.underlying29 rfl infoA Try.underlying31 rfl infoF rfl rfl rfl (by go_simp; rfl) (by go_simp; rfl) rfl rfl ⟨?_, ?_⟩
  · unfold wishL
    rw [if_pos (by first | exact HX.out | (show _ % 1 = 0; omega))]
    rfl
  · (repeat (first | with_reducible exact Keeps.refl _ _ | (with_reducible refine Keeps.drew ?_) | (with_reducible refine Keeps.alloc ?_ _) | (with_reducible refine Keeps.setRow ?_ (fun h => absurd h (by omega)) _) | (with_reducible refine Keeps.setCell ?_ (fun h => absurd h (by simp only []; omega)) _) | (with_reducible refine Keeps.trans ?_ HK8.out) | (with_reducible refine same_then ?_ HK8.out (fun k hk => by omega)) | (with_reducible refine Keeps.trans ?_ HK7.out) | (with_reducible refine same_then ?_ HK7.out (fun k hk => by omega)) | (with_reducible refine Keeps.trans ?_ HK6.out) | (with_reducible refine same_then ?_ HK6.out (fun k hk => by omega)) | (with_reducible refine Keeps.trans ?_ HK5.out) | (with_reducible refine same_then ?_ HK5.out (fun k hk => by omega)) | (with_reducible refine Keeps.trans ?_ HK4.out) | (with_reducible refine same_then ?_ HK4.out (fun k hk => by omega)) | (with_reducible refine Keeps.trans ?_ HK3.out) | (with_reducible refine same_then ?_ HK3.out (fun k hk => by omega)) | (with_reducible refine Keeps.trans ?_ HK2.out) | (with_reducible refine same_then ?_ HK2.out (fun k hk => by omega)) | (with_reducible refine Keeps.trans ?_ HK1.out) | (with_reducible refine same_then ?_ HK1.out (fun k hk => by omega))))
set_option maxHeartbeats 2000000 in
set_option maxRecDepth 100000 in
theorem refw_52 (s : St) (a b imm : Int) (hs : s.Ok) (b0 : 0 ≤ b) (b1 : b < 8) (a0 : 0 ≤ a) (a1 : a < 8) (hi : (⟨52, a, b, imm⟩ : In).Ok) (hm : mayB ⟨52, a, b, imm⟩ false = true) (he : ((s.R b.toNat + imm) % 4294967296) % 2 = 0) (w : World) :
    Calls Try.prog 15 #[.agg (stA s), .agg #[.int .u8 52, .int .u8 a, .int .u8 b, .int .i32 imm]] w fun e w' => e = .returned (.tuple #[.agg (acA (wishL s ⟨52, a, b, imm⟩).1), .agg (flA (wishL s ⟨52, a, b, imm⟩).2)]) ∧ Same w w' := by
  have HM : Hid (∀ w, _) := hidE (fun w => may2_any _ false hi w)
  rw [hm] at HM
  simp only [inA] at HM
  have h8 : b.toNat < 8 := by omega
  have h9 : a.toNat < 8 := by omega
  have q0 := hs.r0 7
  have q1 := hs.r1 7
  have p0 := hs.r0 a.toNat
  have p1 := hs.r1 a.toNat
  have hx : (((s.R b.toNat + imm) % 4294967296) % 2 != 0) = false := by rw [he]; rfl
  have HX := hidE he
  clear he
  clear hm hi hs
  go_enter Try.func15, Try.ntmps15
  go_wp2_with fail
  refine (HM.out _).mono ?_
  rintro e w1 ⟨rfl, hk⟩
  (obtain ⟨hc1, hf1, hr1, -, -, -⟩ := same_facts hk); have lt_w1_0 : w.heap.size < w1.heap.size := (by have hh := (hk).size; (try simp at hh); omega); have lt_w1_1 : w.heap.size + 1 < w1.heap.size := (by have hh := (hk).size; (try simp at hh); omega); have lt_w1_2 : w.heap.size + 1 + 1 < w1.heap.size := (by have hh := (hk).size; (try simp at hh); omega); have lt_w1_3 : w.heap.size + 1 + 1 + 1 < w1.heap.size := (by have hh := (hk).size; (try simp at hh); omega); have lt1_w1_0 : w.heap.size < w1.heap.size + 1 := (by omega); have lt2_w1_0 : w.heap.size < w1.heap.size + 1 + 1 := (by omega); have lt1_w1_1 : w.heap.size + 1 < w1.heap.size + 1 := (by omega); have lt2_w1_1 : w.heap.size + 1 < w1.heap.size + 1 + 1 := (by omega); have lt1_w1_2 : w.heap.size + 1 + 1 < w1.heap.size + 1 := (by omega); have lt2_w1_2 : w.heap.size + 1 + 1 < w1.heap.size + 1 + 1 := (by omega); have lt1_w1_3 : w.heap.size + 1 + 1 + 1 < w1.heap.size + 1 := (by omega); have lt2_w1_3 : w.heap.size + 1 + 1 + 1 < w1.heap.size + 1 + 1 := (by omega); have rw_w1_0 := (hr1 (w.heap.size) (by (try simp); (try omega))).trans (show rowAt _ (w.heap.size) = _ by go_simp; rfl); have rw_w1_1 := (hr1 (w.heap.size + 1) (by (try simp); (try omega))).trans (show rowAt _ (w.heap.size + 1) = _ by go_simp; rfl); have rw_w1_2 := (hr1 (w.heap.size + 1 + 1) (by (try simp); (try omega))).trans (show rowAt _ (w.heap.size + 1 + 1) = _ by go_simp; rfl); have rw_w1_3 := (hr1 (w.heap.size + 1 + 1 + 1) (by (try simp); (try omega))).trans (show rowAt _ (w.heap.size + 1 + 1 + 1) = _ by go_simp; rfl); have HK1 := hidE hk; clear hk
  go_wp2_with fail
  refine wp_region_ra [0, 1, 2, 3, 4, 5, 6, 7, 8, 9] [] 0 (Same _) (by kernel_rfl) (by kernel_rfl) (fun u u' h k => Keeps.trans h k) (Keeps.refl _ _).drew ?_
  simp only [opsOf, List.filterMap_cons, List.filterMap_nil, List.getElem?_cons_zero, List.getElem?_cons_succ]
  repeat (refine seqV_run (v := ?_) rfl (fun u hu => ?_) ?_; rotate_left; (focus (obtain ⟨hc, hf, hr, hl, hn, hm⟩ := same_facts hu; clear hu; go_simp; first | done | with_reducible rfl)); (try simp only [Act.put, List.setIfInBounds_toArray, List.set_cons_zero, List.set_cons_succ]))
  refine seqV_nil ?_
  refine tailR_zero fun u hu _ => ?_
  (obtain ⟨hc2, hf2, hr2, -, -, -⟩ := same_facts hu); have lt_u_0 : w.heap.size < u.heap.size := (by have hh := (hu).size; (try simp at hh); omega); have lt_u_1 : w.heap.size + 1 < u.heap.size := (by have hh := (hu).size; (try simp at hh); omega); have lt_u_2 : w.heap.size + 1 + 1 < u.heap.size := (by have hh := (hu).size; (try simp at hh); omega); have lt_u_3 : w.heap.size + 1 + 1 + 1 < u.heap.size := (by have hh := (hu).size; (try simp at hh); omega); have lt1_u_0 : w.heap.size < u.heap.size + 1 := (by omega); have lt2_u_0 : w.heap.size < u.heap.size + 1 + 1 := (by omega); have lt1_u_1 : w.heap.size + 1 < u.heap.size + 1 := (by omega); have lt2_u_1 : w.heap.size + 1 < u.heap.size + 1 + 1 := (by omega); have lt1_u_2 : w.heap.size + 1 + 1 < u.heap.size + 1 := (by omega); have lt2_u_2 : w.heap.size + 1 + 1 < u.heap.size + 1 + 1 := (by omega); have lt1_u_3 : w.heap.size + 1 + 1 + 1 < u.heap.size + 1 := (by omega); have lt2_u_3 : w.heap.size + 1 + 1 + 1 < u.heap.size + 1 + 1 := (by omega); have rw_u_0 := (hr2 (w.heap.size) (by (try simp); (try omega))).trans (show rowAt _ (w.heap.size) = _ by go_simp; rfl); have rw_u_1 := (hr2 (w.heap.size + 1) (by (try simp); (try omega))).trans (show rowAt _ (w.heap.size + 1) = _ by go_simp; rfl); have rw_u_2 := (hr2 (w.heap.size + 1 + 1) (by (try simp); (try omega))).trans (show rowAt _ (w.heap.size + 1 + 1) = _ by go_simp; rfl); have rw_u_3 := (hr2 (w.heap.size + 1 + 1 + 1) (by (try simp); (try omega))).trans (show rowAt _ (w.heap.size + 1 + 1 + 1) = _ by go_simp; rfl); have HK2 := hidE hu; clear hu
  simp only [IntKind.wrap_u32']
  go_wp2
  refine post_row2 rfl Try.underlying29 rfl infoA Try.underlying31 rfl infoF rfl rfl rfl (by go_simp; rfl) (by go_simp; rfl) rfl rfl ⟨?_, ?_⟩
  · unfold wishL
    rw [if_pos (by first | exact HX.out | (show _ % 1 = 0; omega))]
    rfl
  · (repeat (first | with_reducible exact Keeps.refl _ _ | (with_reducible refine Keeps.drew ?_) | (with_reducible refine Keeps.alloc ?_ _) | (with_reducible refine Keeps.setRow ?_ (fun h => absurd h (by omega)) _) | (with_reducible refine Keeps.setCell ?_ (fun h => absurd h (by simp only []; omega)) _) | (with_reducible refine Keeps.trans ?_ HK8.out) | (with_reducible refine same_then ?_ HK8.out (fun k hk => by omega)) | (with_reducible refine Keeps.trans ?_ HK7.out) | (with_reducible refine same_then ?_ HK7.out (fun k hk => by omega)) | (with_reducible refine Keeps.trans ?_ HK6.out) | (with_reducible refine same_then ?_ HK6.out (fun k hk => by omega)) | (with_reducible refine Keeps.trans ?_ HK5.out) | (with_reducible refine same_then ?_ HK5.out (fun k hk => by omega)) | (with_reducible refine Keeps.trans ?_ HK4.out) | (with_reducible refine same_then ?_ HK4.out (fun k hk => by omega)) | (with_reducible refine Keeps.trans ?_ HK3.out) | (with_reducible refine same_then ?_ HK3.out (fun k hk => by omega)) | (with_reducible refine Keeps.trans ?_ HK2.out) | (with_reducible refine same_then ?_ HK2.out (fun k hk => by omega)) | (with_reducible refine Keeps.trans ?_ HK1.out) | (with_reducible refine same_then ?_ HK1.out (fun k hk => by omega))))
set_option maxHeartbeats 2000000 in
set_option maxRecDepth 100000 in
theorem refw_52_no (s : St) (a b imm : Int) (hs : s.Ok) (b0 : 0 ≤ b) (b1 : b < 8) (a0 : 0 ≤ a) (a1 : a < 8) (hi : (⟨52, a, b, imm⟩ : In).Ok) (hm : mayB ⟨52, a, b, imm⟩ false = true) (he : ((s.R b.toNat + imm) % 4294967296) % 2 ≠ 0) (w : World) :
    Calls Try.prog 15 #[.agg (stA s), .agg #[.int .u8 52, .int .u8 a, .int .u8 b, .int .i32 imm]] w fun e w' => e = .returned (.tuple #[.agg (acA (wishL s ⟨52, a, b, imm⟩).1), .agg (flA (wishL s ⟨52, a, b, imm⟩).2)]) ∧ Same w w' := by
  have HM : Hid (∀ w, _) := hidE (fun w => may2_any _ false hi w)
  rw [hm] at HM
  simp only [inA] at HM
  have h8 : b.toNat < 8 := by omega
  have h9 : a.toNat < 8 := by omega
  have q0 := hs.r0 7
  have q1 := hs.r1 7
  have p0 := hs.r0 a.toNat
  have p1 := hs.r1 a.toNat
  have hx : (((s.R b.toNat + imm) % 4294967296) % 2 != 0) = true := bne_iff_ne.mpr he
  have HX := hidE he
  clear he
  clear hm hi hs
  go_enter Try.func15, Try.ntmps15
  go_wp2_with fail
  refine (HM.out _).mono ?_
  rintro e w1 ⟨rfl, hk⟩
  (obtain ⟨hc1, hf1, hr1, -, -, -⟩ := same_facts hk); have lt_w1_0 : w.heap.size < w1.heap.size := (by have hh := (hk).size; (try simp at hh); omega); have lt_w1_1 : w.heap.size + 1 < w1.heap.size := (by have hh := (hk).size; (try simp at hh); omega); have lt_w1_2 : w.heap.size + 1 + 1 < w1.heap.size := (by have hh := (hk).size; (try simp at hh); omega); have lt_w1_3 : w.heap.size + 1 + 1 + 1 < w1.heap.size := (by have hh := (hk).size; (try simp at hh); omega); have lt1_w1_0 : w.heap.size < w1.heap.size + 1 := (by omega); have lt2_w1_0 : w.heap.size < w1.heap.size + 1 + 1 := (by omega); have lt1_w1_1 : w.heap.size + 1 < w1.heap.size + 1 := (by omega); have lt2_w1_1 : w.heap.size + 1 < w1.heap.size + 1 + 1 := (by omega); have lt1_w1_2 : w.heap.size + 1 + 1 < w1.heap.size + 1 := (by omega); have lt2_w1_2 : w.heap.size + 1 + 1 < w1.heap.size + 1 + 1 := (by omega); have lt1_w1_3 : w.heap.size + 1 + 1 + 1 < w1.heap.size + 1 := (by omega); have lt2_w1_3 : w.heap.size + 1 + 1 + 1 < w1.heap.size + 1 + 1 := (by omega); have rw_w1_0 := (hr1 (w.heap.size) (by (try simp); (try omega))).trans (show rowAt _ (w.heap.size) = _ by go_simp; rfl); have rw_w1_1 := (hr1 (w.heap.size + 1) (by (try simp); (try omega))).trans (show rowAt _ (w.heap.size + 1) = _ by go_simp; rfl); have rw_w1_2 := (hr1 (w.heap.size + 1 + 1) (by (try simp); (try omega))).trans (show rowAt _ (w.heap.size + 1 + 1) = _ by go_simp; rfl); have rw_w1_3 := (hr1 (w.heap.size + 1 + 1 + 1) (by (try simp); (try omega))).trans (show rowAt _ (w.heap.size + 1 + 1 + 1) = _ by go_simp; rfl); have HK1 := hidE hk; clear hk
  go_wp2_with fail
  refine wp_region_ra [0, 1, 2, 3, 4, 5, 6, 7, 8, 9] [] 0 (Same _) (by kernel_rfl) (by kernel_rfl) (fun u u' h k => Keeps.trans h k) (Keeps.refl _ _).drew ?_
  simp only [opsOf, List.filterMap_cons, List.filterMap_nil, List.getElem?_cons_zero, List.getElem?_cons_succ]
  repeat (refine seqV_run (v := ?_) rfl (fun u hu => ?_) ?_; rotate_left; (focus (obtain ⟨hc, hf, hr, hl, hn, hm⟩ := same_facts hu; clear hu; go_simp; first | done | with_reducible rfl)); (try simp only [Act.put, List.setIfInBounds_toArray, List.set_cons_zero, List.set_cons_succ]))
  refine seqV_nil ?_
  refine tailR_zero fun u hu _ => ?_
  (obtain ⟨hc2, hf2, hr2, -, -, -⟩ := same_facts hu); have lt_u_0 : w.heap.size < u.heap.size := (by have hh := (hu).size; (try simp at hh); omega); have lt_u_1 : w.heap.size + 1 < u.heap.size := (by have hh := (hu).size; (try simp at hh); omega); have lt_u_2 : w.heap.size + 1 + 1 < u.heap.size := (by have hh := (hu).size; (try simp at hh); omega); have lt_u_3 : w.heap.size + 1 + 1 + 1 < u.heap.size := (by have hh := (hu).size; (try simp at hh); omega); have lt1_u_0 : w.heap.size < u.heap.size + 1 := (by omega); have lt2_u_0 : w.heap.size < u.heap.size + 1 + 1 := (by omega); have lt1_u_1 : w.heap.size + 1 < u.heap.size + 1 := (by omega); have lt2_u_1 : w.heap.size + 1 < u.heap.size + 1 + 1 := (by omega); have lt1_u_2 : w.heap.size + 1 + 1 < u.heap.size + 1 := (by omega); have lt2_u_2 : w.heap.size + 1 + 1 < u.heap.size + 1 + 1 := (by omega); have lt1_u_3 : w.heap.size + 1 + 1 + 1 < u.heap.size + 1 := (by omega); have lt2_u_3 : w.heap.size + 1 + 1 + 1 < u.heap.size + 1 + 1 := (by omega); have rw_u_0 := (hr2 (w.heap.size) (by (try simp); (try omega))).trans (show rowAt _ (w.heap.size) = _ by go_simp; rfl); have rw_u_1 := (hr2 (w.heap.size + 1) (by (try simp); (try omega))).trans (show rowAt _ (w.heap.size + 1) = _ by go_simp; rfl); have rw_u_2 := (hr2 (w.heap.size + 1 + 1) (by (try simp); (try omega))).trans (show rowAt _ (w.heap.size + 1 + 1) = _ by go_simp; rfl); have rw_u_3 := (hr2 (w.heap.size + 1 + 1 + 1) (by (try simp); (try omega))).trans (show rowAt _ (w.heap.size + 1 + 1 + 1) = _ by go_simp; rfl); have HK2 := hidE hu; clear hu
  simp only [IntKind.wrap_u32']
  go_wp2
  refine post_row2 rfl Try.underlying29 rfl infoA Try.underlying31 rfl infoF rfl rfl rfl (by go_simp; rfl) (by go_simp; rfl) rfl rfl ⟨?_, ?_⟩
  · unfold wishL
    rw [if_neg (by first | exact HX.out | (show _ % 1 = 0; omega))]
    rfl
  · (repeat (first | with_reducible exact Keeps.refl _ _ | (with_reducible refine Keeps.drew ?_) | (with_reducible refine Keeps.alloc ?_ _) | (with_reducible refine Keeps.setRow ?_ (fun h => absurd h (by omega)) _) | (with_reducible refine Keeps.setCell ?_ (fun h => absurd h (by simp only []; omega)) _) | (with_reducible refine Keeps.trans ?_ HK8.out) | (with_reducible refine same_then ?_ HK8.out (fun k hk => by omega)) | (with_reducible refine Keeps.trans ?_ HK7.out) | (with_reducible refine same_then ?_ HK7.out (fun k hk => by omega)) | (with_reducible refine Keeps.trans ?_ HK6.out) | (with_reducible refine same_then ?_ HK6.out (fun k hk => by omega)) | (with_reducible refine Keeps.trans ?_ HK5.out) | (with_reducible refine same_then ?_ HK5.out (fun k hk => by omega)) | (with_reducible refine Keeps.trans ?_ HK4.out) | (with_reducible refine same_then ?_ HK4.out (fun k hk => by omega)) | (with_reducible refine Keeps.trans ?_ HK3.out) | (with_reducible refine same_then ?_ HK3.out (fun k hk => by omega)) | (with_reducible refine Keeps.trans ?_ HK2.out) | (with_reducible refine same_then ?_ HK2.out (fun k hk => by omega)) | (with_reducible refine Keeps.trans ?_ HK1.out) | (with_reducible refine same_then ?_ HK1.out (fun k hk => by omega))))
set_option maxHeartbeats 2000000 in
set_option maxRecDepth 100000 in
theorem refw_53 (s : St) (a b imm : Int) (hs : s.Ok) (b0 : 0 ≤ b) (b1 : b < 8) (a0 : 0 ≤ a) (a1 : a < 8) (hi : (⟨53, a, b, imm⟩ : In).Ok) (hm : mayB ⟨53, a, b, imm⟩ false = true) (he : ((s.R b.toNat + imm) % 4294967296) % 2 = 0) (w : World) :
    Calls Try.prog 15 #[.agg (stA s), .agg #[.int .u8 53, .int .u8 a, .int .u8 b, .int .i32 imm]] w fun e w' => e = .returned (.tuple #[.agg (acA (wishL s ⟨53, a, b, imm⟩).1), .agg (flA (wishL s ⟨53, a, b, imm⟩).2)]) ∧ Same w w' := by
  have HM : Hid (∀ w, _) := hidE (fun w => may2_any _ false hi w)
  rw [hm] at HM
  simp only [inA] at HM
  have h8 : b.toNat < 8 := by omega
  have h9 : a.toNat < 8 := by omega
  have q0 := hs.r0 7
  have q1 := hs.r1 7
  have p0 := hs.r0 a.toNat
  have p1 := hs.r1 a.toNat
  have hx : (((s.R b.toNat + imm) % 4294967296) % 2 != 0) = false := by rw [he]; rfl
  have HX := hidE he
  clear he
  clear hm hi hs
  go_enter Try.func15, Try.ntmps15
  go_wp2_with fail
  refine (HM.out _).mono ?_
  rintro e w1 ⟨rfl, hk⟩
  (obtain ⟨hc1, hf1, hr1, -, -, -⟩ := same_facts hk); have lt_w1_0 : w.heap.size < w1.heap.size := (by have hh := (hk).size; (try simp at hh); omega); have lt_w1_1 : w.heap.size + 1 < w1.heap.size := (by have hh := (hk).size; (try simp at hh); omega); have lt_w1_2 : w.heap.size + 1 + 1 < w1.heap.size := (by have hh := (hk).size; (try simp at hh); omega); have lt_w1_3 : w.heap.size + 1 + 1 + 1 < w1.heap.size := (by have hh := (hk).size; (try simp at hh); omega); have lt1_w1_0 : w.heap.size < w1.heap.size + 1 := (by omega); have lt2_w1_0 : w.heap.size < w1.heap.size + 1 + 1 := (by omega); have lt1_w1_1 : w.heap.size + 1 < w1.heap.size + 1 := (by omega); have lt2_w1_1 : w.heap.size + 1 < w1.heap.size + 1 + 1 := (by omega); have lt1_w1_2 : w.heap.size + 1 + 1 < w1.heap.size + 1 := (by omega); have lt2_w1_2 : w.heap.size + 1 + 1 < w1.heap.size + 1 + 1 := (by omega); have lt1_w1_3 : w.heap.size + 1 + 1 + 1 < w1.heap.size + 1 := (by omega); have lt2_w1_3 : w.heap.size + 1 + 1 + 1 < w1.heap.size + 1 + 1 := (by omega); have rw_w1_0 := (hr1 (w.heap.size) (by (try simp); (try omega))).trans (show rowAt _ (w.heap.size) = _ by go_simp; rfl); have rw_w1_1 := (hr1 (w.heap.size + 1) (by (try simp); (try omega))).trans (show rowAt _ (w.heap.size + 1) = _ by go_simp; rfl); have rw_w1_2 := (hr1 (w.heap.size + 1 + 1) (by (try simp); (try omega))).trans (show rowAt _ (w.heap.size + 1 + 1) = _ by go_simp; rfl); have rw_w1_3 := (hr1 (w.heap.size + 1 + 1 + 1) (by (try simp); (try omega))).trans (show rowAt _ (w.heap.size + 1 + 1 + 1) = _ by go_simp; rfl); have HK1 := hidE hk; clear hk
  go_wp2_with fail
  refine wp_region_ra [0, 1, 2, 3, 4, 5, 6, 7, 8, 9] [] 0 (Same _) (by kernel_rfl) (by kernel_rfl) (fun u u' h k => Keeps.trans h k) (Keeps.refl _ _).drew ?_
  simp only [opsOf, List.filterMap_cons, List.filterMap_nil, List.getElem?_cons_zero, List.getElem?_cons_succ]
  repeat (refine seqV_run (v := ?_) rfl (fun u hu => ?_) ?_; rotate_left; (focus (obtain ⟨hc, hf, hr, hl, hn, hm⟩ := same_facts hu; clear hu; go_simp; first | done | with_reducible rfl)); (try simp only [Act.put, List.setIfInBounds_toArray, List.set_cons_zero, List.set_cons_succ]))
  refine seqV_nil ?_
  refine tailR_zero fun u hu _ => ?_
  (obtain ⟨hc2, hf2, hr2, -, -, -⟩ := same_facts hu); have lt_u_0 : w.heap.size < u.heap.size := (by have hh := (hu).size; (try simp at hh); omega); have lt_u_1 : w.heap.size + 1 < u.heap.size := (by have hh := (hu).size; (try simp at hh); omega); have lt_u_2 : w.heap.size + 1 + 1 < u.heap.size := (by have hh := (hu).size; (try simp at hh); omega); have lt_u_3 : w.heap.size + 1 + 1 + 1 < u.heap.size := (by have hh := (hu).size; (try simp at hh); omega); have lt1_u_0 : w.heap.size < u.heap.size + 1 := (by omega); have lt2_u_0 : w.heap.size < u.heap.size + 1 + 1 := (by omega); have lt1_u_1 : w.heap.size + 1 < u.heap.size + 1 := (by omega); have lt2_u_1 : w.heap.size + 1 < u.heap.size + 1 + 1 := (by omega); have lt1_u_2 : w.heap.size + 1 + 1 < u.heap.size + 1 := (by omega); have lt2_u_2 : w.heap.size + 1 + 1 < u.heap.size + 1 + 1 := (by omega); have lt1_u_3 : w.heap.size + 1 + 1 + 1 < u.heap.size + 1 := (by omega); have lt2_u_3 : w.heap.size + 1 + 1 + 1 < u.heap.size + 1 + 1 := (by omega); have rw_u_0 := (hr2 (w.heap.size) (by (try simp); (try omega))).trans (show rowAt _ (w.heap.size) = _ by go_simp; rfl); have rw_u_1 := (hr2 (w.heap.size + 1) (by (try simp); (try omega))).trans (show rowAt _ (w.heap.size + 1) = _ by go_simp; rfl); have rw_u_2 := (hr2 (w.heap.size + 1 + 1) (by (try simp); (try omega))).trans (show rowAt _ (w.heap.size + 1 + 1) = _ by go_simp; rfl); have rw_u_3 := (hr2 (w.heap.size + 1 + 1 + 1) (by (try simp); (try omega))).trans (show rowAt _ (w.heap.size + 1 + 1 + 1) = _ by go_simp; rfl); have HK2 := hidE hu; clear hu
  simp only [IntKind.wrap_u32']
  go_wp2
  refine post_row2 rfl Try.underlying29 rfl infoA Try.underlying31 rfl infoF rfl rfl rfl (by go_simp; rfl) (by go_simp; rfl) rfl rfl ⟨?_, ?_⟩
  · unfold wishL
    rw [if_pos (by first | exact HX.out | (show _ % 1 = 0; omega))]
    rfl
  · (repeat (first | with_reducible exact Keeps.refl _ _ | (with_reducible refine Keeps.drew ?_) | (with_reducible refine Keeps.alloc ?_ _) | (with_reducible refine Keeps.setRow ?_ (fun h => absurd h (by omega)) _) | (with_reducible refine Keeps.setCell ?_ (fun h => absurd h (by simp only []; omega)) _) | (with_reducible refine Keeps.trans ?_ HK8.out) | (with_reducible refine same_then ?_ HK8.out (fun k hk => by omega)) | (with_reducible refine Keeps.trans ?_ HK7.out) | (with_reducible refine same_then ?_ HK7.out (fun k hk => by omega)) | (with_reducible refine Keeps.trans ?_ HK6.out) | (with_reducible refine same_then ?_ HK6.out (fun k hk => by omega)) | (with_reducible refine Keeps.trans ?_ HK5.out) | (with_reducible refine same_then ?_ HK5.out (fun k hk => by omega)) | (with_reducible refine Keeps.trans ?_ HK4.out) | (with_reducible refine same_then ?_ HK4.out (fun k hk => by omega)) | (with_reducible refine Keeps.trans ?_ HK3.out) | (with_reducible refine same_then ?_ HK3.out (fun k hk => by omega)) | (with_reducible refine Keeps.trans ?_ HK2.out) | (with_reducible refine same_then ?_ HK2.out (fun k hk => by omega)) | (with_reducible refine Keeps.trans ?_ HK1.out) | (with_reducible refine same_then ?_ HK1.out (fun k hk => by omega))))
set_option maxHeartbeats 2000000 in
set_option maxRecDepth 100000 in
theorem refw_53_no (s : St) (a b imm : Int) (hs : s.Ok) (b0 : 0 ≤ b) (b1 : b < 8) (a0 : 0 ≤ a) (a1 : a < 8) (hi : (⟨53, a, b, imm⟩ : In).Ok) (hm : mayB ⟨53, a, b, imm⟩ false = true) (he : ((s.R b.toNat + imm) % 4294967296) % 2 ≠ 0) (w : World) :
    Calls Try.prog 15 #[.agg (stA s), .agg #[.int .u8 53, .int .u8 a, .int .u8 b, .int .i32 imm]] w fun e w' => e = .returned (.tuple #[.agg (acA (wishL s ⟨53, a, b, imm⟩).1), .agg (flA (wishL s ⟨53, a, b, imm⟩).2)]) ∧ Same w w' := by
  have HM : Hid (∀ w, _) := hidE (fun w => may2_any _ false hi w)
  rw [hm] at HM
  simp only [inA] at HM
  have h8 : b.toNat < 8 := by omega
  have h9 : a.toNat < 8 := by omega
  have q0 := hs.r0 7
  have q1 := hs.r1 7
  have p0 := hs.r0 a.toNat
  have p1 := hs.r1 a.toNat
  have hx : (((s.R b.toNat + imm) % 4294967296) % 2 != 0) = true := bne_iff_ne.mpr he
  have HX := hidE he
  clear he
  clear hm hi hs
  go_enter Try.func15, Try.ntmps15
  go_wp2_with fail
  refine (HM.out _).mono ?_
  rintro e w1 ⟨rfl, hk⟩
  (obtain ⟨hc1, hf1, hr1, -, -, -⟩ := same_facts hk); have lt_w1_0 : w.heap.size < w1.heap.size := (by have hh := (hk).size; (try simp at hh); omega); have lt_w1_1 : w.heap.size + 1 < w1.heap.size := (by have hh := (hk).size; (try simp at hh); omega); have lt_w1_2 : w.heap.size + 1 + 1 < w1.heap.size := (by have hh := (hk).size; (try simp at hh); omega); have lt_w1_3 : w.heap.size + 1 + 1 + 1 < w1.heap.size := (by have hh := (hk).size; (try simp at hh); omega); have lt1_w1_0 : w.heap.size < w1.heap.size + 1 := (by omega); have lt2_w1_0 : w.heap.size < w1.heap.size + 1 + 1 := (by omega); have lt1_w1_1 : w.heap.size + 1 < w1.heap.size + 1 := (by omega); have lt2_w1_1 : w.heap.size + 1 < w1.heap.size + 1 + 1 := (by omega); have lt1_w1_2 : w.heap.size + 1 + 1 < w1.heap.size + 1 := (by omega); have lt2_w1_2 : w.heap.size + 1 + 1 < w1.heap.size + 1 + 1 := (by omega); have lt1_w1_3 : w.heap.size + 1 + 1 + 1 < w1.heap.size + 1 := (by omega); have lt2_w1_3 : w.heap.size + 1 + 1 + 1 < w1.heap.size + 1 + 1 := (by omega); have rw_w1_0 := (hr1 (w.heap.size) (by (try simp); (try omega))).trans (show rowAt _ (w.heap.size) = _ by go_simp; rfl); have rw_w1_1 := (hr1 (w.heap.size + 1) (by (try simp); (try omega))).trans (show rowAt _ (w.heap.size + 1) = _ by go_simp; rfl); have rw_w1_2 := (hr1 (w.heap.size + 1 + 1) (by (try simp); (try omega))).trans (show rowAt _ (w.heap.size + 1 + 1) = _ by go_simp; rfl); have rw_w1_3 := (hr1 (w.heap.size + 1 + 1 + 1) (by (try simp); (try omega))).trans (show rowAt _ (w.heap.size + 1 + 1 + 1) = _ by go_simp; rfl); have HK1 := hidE hk; clear hk
  go_wp2_with fail
  refine wp_region_ra [0, 1, 2, 3, 4, 5, 6, 7, 8, 9] [] 0 (Same _) (by kernel_rfl) (by kernel_rfl) (fun u u' h k => Keeps.trans h k) (Keeps.refl _ _).drew ?_
  simp only [opsOf, List.filterMap_cons, List.filterMap_nil, List.getElem?_cons_zero, List.getElem?_cons_succ]
  repeat (refine seqV_run (v := ?_) rfl (fun u hu => ?_) ?_; rotate_left; (focus (obtain ⟨hc, hf, hr, hl, hn, hm⟩ := same_facts hu; clear hu; go_simp; first | done | with_reducible rfl)); (try simp only [Act.put, List.setIfInBounds_toArray, List.set_cons_zero, List.set_cons_succ]))
  refine seqV_nil ?_
  refine tailR_zero fun u hu _ => ?_
  (obtain ⟨hc2, hf2, hr2, -, -, -⟩ := same_facts hu); have lt_u_0 : w.heap.size < u.heap.size := (by have hh := (hu).size; (try simp at hh); omega); have lt_u_1 : w.heap.size + 1 < u.heap.size := (by have hh := (hu).size; (try simp at hh); omega); have lt_u_2 : w.heap.size + 1 + 1 < u.heap.size := (by have hh := (hu).size; (try simp at hh); omega); have lt_u_3 : w.heap.size + 1 + 1 + 1 < u.heap.size := (by have hh := (hu).size; (try simp at hh); omega); have lt1_u_0 : w.heap.size < u.heap.size + 1 := (by omega); have lt2_u_0 : w.heap.size < u.heap.size + 1 + 1 := (by omega); have lt1_u_1 : w.heap.size + 1 < u.heap.size + 1 := (by omega); have lt2_u_1 : w.heap.size + 1 < u.heap.size + 1 + 1 := (by omega); have lt1_u_2 : w.heap.size + 1 + 1 < u.heap.size + 1 := (by omega); have lt2_u_2 : w.heap.size + 1 + 1 < u.heap.size + 1 + 1 := (by omega); have lt1_u_3 : w.heap.size + 1 + 1 + 1 < u.heap.size + 1 := (by omega); have lt2_u_3 : w.heap.size + 1 + 1 + 1 < u.heap.size + 1 + 1 := (by omega); have rw_u_0 := (hr2 (w.heap.size) (by (try simp); (try omega))).trans (show rowAt _ (w.heap.size) = _ by go_simp; rfl); have rw_u_1 := (hr2 (w.heap.size + 1) (by (try simp); (try omega))).trans (show rowAt _ (w.heap.size + 1) = _ by go_simp; rfl); have rw_u_2 := (hr2 (w.heap.size + 1 + 1) (by (try simp); (try omega))).trans (show rowAt _ (w.heap.size + 1 + 1) = _ by go_simp; rfl); have rw_u_3 := (hr2 (w.heap.size + 1 + 1 + 1) (by (try simp); (try omega))).trans (show rowAt _ (w.heap.size + 1 + 1 + 1) = _ by go_simp; rfl); have HK2 := hidE hu; clear hu
  simp only [IntKind.wrap_u32']
  go_wp2
  refine post_row2 rfl Try.underlying29 rfl infoA Try.underlying31 rfl infoF rfl rfl rfl (by go_simp; rfl) (by go_simp; rfl) rfl rfl ⟨?_, ?_⟩
  · unfold wishL
    rw [if_neg (by first | exact HX.out | (show _ % 1 = 0; omega))]
    rfl
  · (repeat (first | with_reducible exact Keeps.refl _ _ | (with_reducible refine Keeps.drew ?_) | (with_reducible refine Keeps.alloc ?_ _) | (with_reducible refine Keeps.setRow ?_ (fun h => absurd h (by omega)) _) | (with_reducible refine Keeps.setCell ?_ (fun h => absurd h (by simp only []; omega)) _) | (with_reducible refine Keeps.trans ?_ HK8.out) | (with_reducible refine same_then ?_ HK8.out (fun k hk => by omega)) | (with_reducible refine Keeps.trans ?_ HK7.out) | (with_reducible refine same_then ?_ HK7.out (fun k hk => by omega)) | (with_reducible refine Keeps.trans ?_ HK6.out) | (with_reducible refine same_then ?_ HK6.out (fun k hk => by omega)) | (with_reducible refine Keeps.trans ?_ HK5.out) | (with_reducible refine same_then ?_ HK5.out (fun k hk => by omega)) | (with_reducible refine Keeps.trans ?_ HK4.out) | (with_reducible refine same_then ?_ HK4.out (fun k hk => by omega)) | (with_reducible refine Keeps.trans ?_ HK3.out) | (with_reducible refine same_then ?_ HK3.out (fun k hk => by omega)) | (with_reducible refine Keeps.trans ?_ HK2.out) | (with_reducible refine same_then ?_ HK2.out (fun k hk => by omega)) | (with_reducible refine Keeps.trans ?_ HK1.out) | (with_reducible refine same_then ?_ HK1.out (fun k hk => by omega))))
set_option maxHeartbeats 2000000 in
set_option maxRecDepth 100000 in
theorem refw_54 (s : St) (a b imm : Int) (hs : s.Ok) (b0 : 0 ≤ b) (b1 : b < 8) (a0 : 0 ≤ a) (a1 : a < 8) (hi : (⟨54, a, b, imm⟩ : In).Ok) (hm : mayB ⟨54, a, b, imm⟩ false = true) (w : World) :
    Calls Try.prog 15 #[.agg (stA s), .agg #[.int .u8 54, .int .u8 a, .int .u8 b, .int .i32 imm]] w fun e w' => e = .returned (.tuple #[.agg (acA (wishL s ⟨54, a, b, imm⟩).1), .agg (flA (wishL s ⟨54, a, b, imm⟩).2)]) ∧ Same w w' := by
  have HM : Hid (∀ w, _) := hidE (fun w => may2_any _ false hi w)
  rw [hm] at HM
  simp only [inA] at HM
  have h8 : b.toNat < 8 := by omega
  have h9 : a.toNat < 8 := by omega
  have q0 := hs.r0 7
  have q1 := hs.r1 7
  have p0 := hs.r0 a.toNat
  have p1 := hs.r1 a.toNat
  clear hm hi hs
  go_enter Try.func15, Try.ntmps15
  go_wp2_with fail
  refine (HM.out _).mono ?_
  rintro e w1 ⟨rfl, hk⟩
  (obtain ⟨hc1, hf1, hr1, -, -, -⟩ := same_facts hk); have lt_w1_0 : w.heap.size < w1.heap.size := (by have hh := (hk).size; (try simp at hh); omega); have lt_w1_1 : w.heap.size + 1 < w1.heap.size := (by have hh := (hk).size; (try simp at hh); omega); have lt_w1_2 : w.heap.size + 1 + 1 < w1.heap.size := (by have hh := (hk).size; (try simp at hh); omega); have lt_w1_3 : w.heap.size + 1 + 1 + 1 < w1.heap.size := (by have hh := (hk).size; (try simp at hh); omega); have lt1_w1_0 : w.heap.size < w1.heap.size + 1 := (by omega); have lt2_w1_0 : w.heap.size < w1.heap.size + 1 + 1 := (by omega); have lt1_w1_1 : w.heap.size + 1 < w1.heap.size + 1 := (by omega); have lt2_w1_1 : w.heap.size + 1 < w1.heap.size + 1 + 1 := (by omega); have lt1_w1_2 : w.heap.size + 1 + 1 < w1.heap.size + 1 := (by omega); have lt2_w1_2 : w.heap.size + 1 + 1 < w1.heap.size + 1 + 1 := (by omega); have lt1_w1_3 : w.heap.size + 1 + 1 + 1 < w1.heap.size + 1 := (by omega); have lt2_w1_3 : w.heap.size + 1 + 1 + 1 < w1.heap.size + 1 + 1 := (by omega); have rw_w1_0 := (hr1 (w.heap.size) (by (try simp); (try omega))).trans (show rowAt _ (w.heap.size) = _ by go_simp; rfl); have rw_w1_1 := (hr1 (w.heap.size + 1) (by (try simp); (try omega))).trans (show rowAt _ (w.heap.size + 1) = _ by go_simp; rfl); have rw_w1_2 := (hr1 (w.heap.size + 1 + 1) (by (try simp); (try omega))).trans (show rowAt _ (w.heap.size + 1 + 1) = _ by go_simp; rfl); have rw_w1_3 := (hr1 (w.heap.size + 1 + 1 + 1) (by (try simp); (try omega))).trans (show rowAt _ (w.heap.size + 1 + 1 + 1) = _ by go_simp; rfl); have HK1 := hidE hk; clear hk
  go_wp2_with fail
  refine wp_region_ra [0, 1, 2, 3, 4, 5, 6, 7, 8, 9] [] 0 (Same _) (by kernel_rfl) (by kernel_rfl) (fun u u' h k => Keeps.trans h k) (Keeps.refl _ _).drew ?_
  simp only [opsOf, List.filterMap_cons, List.filterMap_nil, List.getElem?_cons_zero, List.getElem?_cons_succ]
  repeat (refine seqV_run (v := ?_) rfl (fun u hu => ?_) ?_; rotate_left; (focus (obtain ⟨hc, hf, hr, hl, hn, hm⟩ := same_facts hu; clear hu; go_simp; first | done | with_reducible rfl)); (try simp only [Act.put, List.setIfInBounds_toArray, List.set_cons_zero, List.set_cons_succ]))
  refine seqV_nil ?_
  refine tailR_zero fun u hu _ => ?_
  (obtain ⟨hc2, hf2, hr2, -, -, -⟩ := same_facts hu); have lt_u_0 : w.heap.size < u.heap.size := (by have hh := (hu).size; (try simp at hh); omega); have lt_u_1 : w.heap.size + 1 < u.heap.size := (by have hh := (hu).size; (try simp at hh); omega); have lt_u_2 : w.heap.size + 1 + 1 < u.heap.size := (by have hh := (hu).size; (try simp at hh); omega); have lt_u_3 : w.heap.size + 1 + 1 + 1 < u.heap.size := (by have hh := (hu).size; (try simp at hh); omega); have lt1_u_0 : w.heap.size < u.heap.size + 1 := (by omega); have lt2_u_0 : w.heap.size < u.heap.size + 1 + 1 := (by omega); have lt1_u_1 : w.heap.size + 1 < u.heap.size + 1 := (by omega); have lt2_u_1 : w.heap.size + 1 < u.heap.size + 1 + 1 := (by omega); have lt1_u_2 : w.heap.size + 1 + 1 < u.heap.size + 1 := (by omega); have lt2_u_2 : w.heap.size + 1 + 1 < u.heap.size + 1 + 1 := (by omega); have lt1_u_3 : w.heap.size + 1 + 1 + 1 < u.heap.size + 1 := (by omega); have lt2_u_3 : w.heap.size + 1 + 1 + 1 < u.heap.size + 1 + 1 := (by omega); have rw_u_0 := (hr2 (w.heap.size) (by (try simp); (try omega))).trans (show rowAt _ (w.heap.size) = _ by go_simp; rfl); have rw_u_1 := (hr2 (w.heap.size + 1) (by (try simp); (try omega))).trans (show rowAt _ (w.heap.size + 1) = _ by go_simp; rfl); have rw_u_2 := (hr2 (w.heap.size + 1 + 1) (by (try simp); (try omega))).trans (show rowAt _ (w.heap.size + 1 + 1) = _ by go_simp; rfl); have rw_u_3 := (hr2 (w.heap.size + 1 + 1 + 1) (by (try simp); (try omega))).trans (show rowAt _ (w.heap.size + 1 + 1 + 1) = _ by go_simp; rfl); have HK2 := hidE hu; clear hu
  simp only [IntKind.wrap_u32']
  go_wp2
  refine post_row2 rfl Try.underlying29 rfl infoA Try.underlying31 rfl infoF rfl rfl rfl (by go_simp; rfl) (by go_simp; rfl) rfl rfl ⟨?_, ?_⟩
  · unfold wishL
    rw [if_pos (by first | exact HX.out | (show _ % 1 = 0; omega))]
    rfl
  · (repeat (first | with_reducible exact Keeps.refl _ _ | (with_reducible refine Keeps.drew ?_) | (with_reducible refine Keeps.alloc ?_ _) | (with_reducible refine Keeps.setRow ?_ (fun h => absurd h (by omega)) _) | (with_reducible refine Keeps.setCell ?_ (fun h => absurd h (by simp only []; omega)) _) | (with_reducible refine Keeps.trans ?_ HK8.out) | (with_reducible refine same_then ?_ HK8.out (fun k hk => by omega)) | (with_reducible refine Keeps.trans ?_ HK7.out) | (with_reducible refine same_then ?_ HK7.out (fun k hk => by omega)) | (with_reducible refine Keeps.trans ?_ HK6.out) | (with_reducible refine same_then ?_ HK6.out (fun k hk => by omega)) | (with_reducible refine Keeps.trans ?_ HK5.out) | (with_reducible refine same_then ?_ HK5.out (fun k hk => by omega)) | (with_reducible refine Keeps.trans ?_ HK4.out) | (with_reducible refine same_then ?_ HK4.out (fun k hk => by omega)) | (with_reducible refine Keeps.trans ?_ HK3.out) | (with_reducible refine same_then ?_ HK3.out (fun k hk => by omega)) | (with_reducible refine Keeps.trans ?_ HK2.out) | (with_reducible refine same_then ?_ HK2.out (fun k hk => by omega)) | (with_reducible refine Keeps.trans ?_ HK1.out) | (with_reducible refine same_then ?_ HK1.out (fun k hk => by omega))))
set_option maxHeartbeats 2000000 in
set_option maxRecDepth 100000 in
theorem refw_55 (s : St) (a b imm : Int) (hs : s.Ok) (b0 : 0 ≤ b) (b1 : b < 8) (a0 : 0 ≤ a) (a1 : a < 8) (hi : (⟨55, a, b, imm⟩ : In).Ok) (hm : mayB ⟨55, a, b, imm⟩ false = true) (he : ((s.R b.toNat + imm) % 4294967296) % 2 = 0) (w : World) :
    Calls Try.prog 15 #[.agg (stA s), .agg #[.int .u8 55, .int .u8 a, .int .u8 b, .int .i32 imm]] w fun e w' => e = .returned (.tuple #[.agg (acA (wishL s ⟨55, a, b, imm⟩).1), .agg (flA (wishL s ⟨55, a, b, imm⟩).2)]) ∧ Same w w' := by
  have HM : Hid (∀ w, _) := hidE (fun w => may2_any _ false hi w)
  rw [hm] at HM
  simp only [inA] at HM
  have h8 : b.toNat < 8 := by omega
  have h9 : a.toNat < 8 := by omega
  have q0 := hs.r0 7
  have q1 := hs.r1 7
  have p0 := hs.r0 a.toNat
  have p1 := hs.r1 a.toNat
  have hx : (((s.R b.toNat + imm) % 4294967296) % 2 != 0) = false := by rw [he]; rfl
  have HX := hidE he
  clear he
  clear hm hi hs
  go_enter Try.func15, Try.ntmps15
  go_wp2_with fail
  refine (HM.out _).mono ?_
  rintro e w1 ⟨rfl, hk⟩
  (obtain ⟨hc1, hf1, hr1, -, -, -⟩ := same_facts hk); have lt_w1_0 : w.heap.size < w1.heap.size := (by have hh := (hk).size; (try simp at hh); omega); have lt_w1_1 : w.heap.size + 1 < w1.heap.size := (by have hh := (hk).size; (try simp at hh); omega); have lt_w1_2 : w.heap.size + 1 + 1 < w1.heap.size := (by have hh := (hk).size; (try simp at hh); omega); have lt_w1_3 : w.heap.size + 1 + 1 + 1 < w1.heap.size := (by have hh := (hk).size; (try simp at hh); omega); have lt1_w1_0 : w.heap.size < w1.heap.size + 1 := (by omega); have lt2_w1_0 : w.heap.size < w1.heap.size + 1 + 1 := (by omega); have lt1_w1_1 : w.heap.size + 1 < w1.heap.size + 1 := (by omega); have lt2_w1_1 : w.heap.size + 1 < w1.heap.size + 1 + 1 := (by omega); have lt1_w1_2 : w.heap.size + 1 + 1 < w1.heap.size + 1 := (by omega); have lt2_w1_2 : w.heap.size + 1 + 1 < w1.heap.size + 1 + 1 := (by omega); have lt1_w1_3 : w.heap.size + 1 + 1 + 1 < w1.heap.size + 1 := (by omega); have lt2_w1_3 : w.heap.size + 1 + 1 + 1 < w1.heap.size + 1 + 1 := (by omega); have rw_w1_0 := (hr1 (w.heap.size) (by (try simp); (try omega))).trans (show rowAt _ (w.heap.size) = _ by go_simp; rfl); have rw_w1_1 := (hr1 (w.heap.size + 1) (by (try simp); (try omega))).trans (show rowAt _ (w.heap.size + 1) = _ by go_simp; rfl); have rw_w1_2 := (hr1 (w.heap.size + 1 + 1) (by (try simp); (try omega))).trans (show rowAt _ (w.heap.size + 1 + 1) = _ by go_simp; rfl); have rw_w1_3 := (hr1 (w.heap.size + 1 + 1 + 1) (by (try simp); (try omega))).trans (show rowAt _ (w.heap.size + 1 + 1 + 1) = _ by go_simp; rfl); have HK1 := hidE hk; clear hk
  go_wp2_with fail
  refine wp_region_ra [0, 1, 2, 3, 4, 5, 6, 7, 8, 9] [] 0 (Same _) (by kernel_rfl) (by kernel_rfl) (fun u u' h k => Keeps.trans h k) (Keeps.refl _ _).drew ?_
  simp only [opsOf, List.filterMap_cons, List.filterMap_nil, List.getElem?_cons_zero, List.getElem?_cons_succ]
  repeat (refine seqV_run (v := ?_) rfl (fun u hu => ?_) ?_; rotate_left; (focus (obtain ⟨hc, hf, hr, hl, hn, hm⟩ := same_facts hu; clear hu; go_simp; first | done | with_reducible rfl)); (try simp only [Act.put, List.setIfInBounds_toArray, List.set_cons_zero, List.set_cons_succ]))
  refine seqV_nil ?_
  refine tailR_zero fun u hu _ => ?_
  (obtain ⟨hc2, hf2, hr2, -, -, -⟩ := same_facts hu); have lt_u_0 : w.heap.size < u.heap.size := (by have hh := (hu).size; (try simp at hh); omega); have lt_u_1 : w.heap.size + 1 < u.heap.size := (by have hh := (hu).size; (try simp at hh); omega); have lt_u_2 : w.heap.size + 1 + 1 < u.heap.size := (by have hh := (hu).size; (try simp at hh); omega); have lt_u_3 : w.heap.size + 1 + 1 + 1 < u.heap.size := (by have hh := (hu).size; (try simp at hh); omega); have lt1_u_0 : w.heap.size < u.heap.size + 1 := (by omega); have lt2_u_0 : w.heap.size < u.heap.size + 1 + 1 := (by omega); have lt1_u_1 : w.heap.size + 1 < u.heap.size + 1 := (by omega); have lt2_u_1 : w.heap.size + 1 < u.heap.size + 1 + 1 := (by omega); have lt1_u_2 : w.heap.size + 1 + 1 < u.heap.size + 1 := (by omega); have lt2_u_2 : w.heap.size + 1 + 1 < u.heap.size + 1 + 1 := (by omega); have lt1_u_3 : w.heap.size + 1 + 1 + 1 < u.heap.size + 1 := (by omega); have lt2_u_3 : w.heap.size + 1 + 1 + 1 < u.heap.size + 1 + 1 := (by omega); have rw_u_0 := (hr2 (w.heap.size) (by (try simp); (try omega))).trans (show rowAt _ (w.heap.size) = _ by go_simp; rfl); have rw_u_1 := (hr2 (w.heap.size + 1) (by (try simp); (try omega))).trans (show rowAt _ (w.heap.size + 1) = _ by go_simp; rfl); have rw_u_2 := (hr2 (w.heap.size + 1 + 1) (by (try simp); (try omega))).trans (show rowAt _ (w.heap.size + 1 + 1) = _ by go_simp; rfl); have rw_u_3 := (hr2 (w.heap.size + 1 + 1 + 1) (by (try simp); (try omega))).trans (show rowAt _ (w.heap.size + 1 + 1 + 1) = _ by go_simp; rfl); have HK2 := hidE hu; clear hu
  simp only [IntKind.wrap_u32']
  go_wp2
  refine post_row2 rfl Try.underlying29 rfl infoA Try.underlying31 rfl infoF rfl rfl rfl (by go_simp; rfl) (by go_simp; rfl) rfl rfl ⟨?_, ?_⟩
  · unfold wishL
    rw [if_pos (by first | exact HX.out | (show _ % 1 = 0; omega))]
    rfl
  · (repeat (first | with_reducible exact Keeps.refl _ _ | (with_reducible refine Keeps.drew ?_) | (with_reducible refine Keeps.alloc ?_ _) | (with_reducible refine Keeps.setRow ?_ (fun h => absurd h (by omega)) _) | (with_reducible refine Keeps.setCell ?_ (fun h => absurd h (by simp only []; omega)) _) | (with_reducible refine Keeps.trans ?_ HK8.out) | (with_reducible refine same_then ?_ HK8.out (fun k hk => by omega)) | (with_reducible refine Keeps.trans ?_ HK7.out) | (with_reducible refine same_then ?_ HK7.out (fun k hk => by omega)) | (with_reducible refine Keeps.trans ?_ HK6.out) | (with_reducible refine same_then ?_ HK6.out (fun k hk => by omega)) | (with_reducible refine Keeps.trans ?_ HK5.out) | (with_reducible refine same_then ?_ HK5.out (fun k hk => by omega)) | (with_reducible refine Keeps.trans ?_ HK4.out) | (with_reducible refine same_then ?_ HK4.out (fun k hk => by omega)) | (with_reducible refine Keeps.trans ?_ HK3.out) | (with_reducible refine same_then ?_ HK3.out (fun k hk => by omega)) | (with_reducible refine Keeps.trans ?_ HK2.out) | (with_reducible refine same_then ?_ HK2.out (fun k hk => by omega)) | (with_reducible refine Keeps.trans ?_ HK1.out) | (with_reducible refine same_then ?_ HK1.out (fun k hk => by omega))))
set_option maxHeartbeats 2000000 in
set_option maxRecDepth 100000 in
theorem refw_55_no (s : St) (a b imm : Int) (hs : s.Ok) (b0 : 0 ≤ b) (b1 : b < 8) (a0 : 0 ≤ a) (a1 : a < 8) (hi : (⟨55, a, b, imm⟩ : In).Ok) (hm : mayB ⟨55, a, b, imm⟩ false = true) (he : ((s.R b.toNat + imm) % 4294967296) % 2 ≠ 0) (w : World) :
    Calls Try.prog 15 #[.agg (stA s), .agg #[.int .u8 55, .int .u8 a, .int .u8 b, .int .i32 imm]] w fun e w' => e = .returned (.tuple #[.agg (acA (wishL s ⟨55, a, b, imm⟩).1), .agg (flA (wishL s ⟨55, a, b, imm⟩).2)]) ∧ Same w w' := by
  have HM : Hid (∀ w, _) := hidE (fun w => may2_any _ false hi w)
  rw [hm] at HM
  simp only [inA] at HM
  have h8 : b.toNat < 8 := by omega
  have h9 : a.toNat < 8 := by omega
  have q0 := hs.r0 7
  have q1 := hs.r1 7
  have p0 := hs.r0 a.toNat
  have p1 := hs.r1 a.toNat
  have hx : (((s.R b.toNat + imm) % 4294967296) % 2 != 0) = true := bne_iff_ne.mpr he
  have HX := hidE he
  clear he
  clear hm hi hs
  go_enter Try.func15, Try.ntmps15
  go_wp2_with fail
  refine (HM.out _).mono ?_
  rintro e w1 ⟨rfl, hk⟩
  (obtain ⟨hc1, hf1, hr1, -, -, -⟩ := same_facts hk); have lt_w1_0 : w.heap.size < w1.heap.size := (by have hh := (hk).size; (try simp at hh); omega); have lt_w1_1 : w.heap.size + 1 < w1.heap.size := (by have hh := (hk).size; (try simp at hh); omega); have lt_w1_2 : w.heap.size + 1 + 1 < w1.heap.size := (by have hh := (hk).size; (try simp at hh); omega); have lt_w1_3 : w.heap.size + 1 + 1 + 1 < w1.heap.size := (by have hh := (hk).size; (try simp at hh); omega); have lt1_w1_0 : w.heap.size < w1.heap.size + 1 := (by omega); have lt2_w1_0 : w.heap.size < w1.heap.size + 1 + 1 := (by omega); have lt1_w1_1 : w.heap.size + 1 < w1.heap.size + 1 := (by omega); have lt2_w1_1 : w.heap.size + 1 < w1.heap.size + 1 + 1 := (by omega); have lt1_w1_2 : w.heap.size + 1 + 1 < w1.heap.size + 1 := (by omega); have lt2_w1_2 : w.heap.size + 1 + 1 < w1.heap.size + 1 + 1 := (by omega); have lt1_w1_3 : w.heap.size + 1 + 1 + 1 < w1.heap.size + 1 := (by omega); have lt2_w1_3 : w.heap.size + 1 + 1 + 1 < w1.heap.size + 1 + 1 := (by omega); have rw_w1_0 := (hr1 (w.heap.size) (by (try simp); (try omega))).trans (show rowAt _ (w.heap.size) = _ by go_simp; rfl); have rw_w1_1 := (hr1 (w.heap.size + 1) (by (try simp); (try omega))).trans (show rowAt _ (w.heap.size + 1) = _ by go_simp; rfl); have rw_w1_2 := (hr1 (w.heap.size + 1 + 1) (by (try simp); (try omega))).trans (show rowAt _ (w.heap.size + 1 + 1) = _ by go_simp; rfl); have rw_w1_3 := (hr1 (w.heap.size + 1 + 1 + 1) (by (try simp); (try omega))).trans (show rowAt _ (w.heap.size + 1 + 1 + 1) = _ by go_simp; rfl); have HK1 := hidE hk; clear hk
  go_wp2_with fail
  refine wp_region_ra [0, 1, 2, 3, 4, 5, 6, 7, 8, 9] [] 0 (Same _) (by kernel_rfl) (by kernel_rfl) (fun u u' h k => Keeps.trans h k) (Keeps.refl _ _).drew ?_
  simp only [opsOf, List.filterMap_cons, List.filterMap_nil, List.getElem?_cons_zero, List.getElem?_cons_succ]
  repeat (refine seqV_run (v := ?_) rfl (fun u hu => ?_) ?_; rotate_left; (focus (obtain ⟨hc, hf, hr, hl, hn, hm⟩ := same_facts hu; clear hu; go_simp; first | done | with_reducible rfl)); (try simp only [Act.put, List.setIfInBounds_toArray, List.set_cons_zero, List.set_cons_succ]))
  refine seqV_nil ?_
  refine tailR_zero fun u hu _ => ?_
  (obtain ⟨hc2, hf2, hr2, -, -, -⟩ := same_facts hu); have lt_u_0 : w.heap.size < u.heap.size := (by have hh := (hu).size; (try simp at hh); omega); have lt_u_1 : w.heap.size + 1 < u.heap.size := (by have hh := (hu).size; (try simp at hh); omega); have lt_u_2 : w.heap.size + 1 + 1 < u.heap.size := (by have hh := (hu).size; (try simp at hh); omega); have lt_u_3 : w.heap.size + 1 + 1 + 1 < u.heap.size := (by have hh := (hu).size; (try simp at hh); omega); have lt1_u_0 : w.heap.size < u.heap.size + 1 := (by omega); have lt2_u_0 : w.heap.size < u.heap.size + 1 + 1 := (by omega); have lt1_u_1 : w.heap.size + 1 < u.heap.size + 1 := (by omega); have lt2_u_1 : w.heap.size + 1 < u.heap.size + 1 + 1 := (by omega); have lt1_u_2 : w.heap.size + 1 + 1 < u.heap.size + 1 := (by omega); have lt2_u_2 : w.heap.size + 1 + 1 < u.heap.size + 1 + 1 := (by omega); have lt1_u_3 : w.heap.size + 1 + 1 + 1 < u.heap.size + 1 := (by omega); have lt2_u_3 : w.heap.size + 1 + 1 + 1 < u.heap.size + 1 + 1 := (by omega); have rw_u_0 := (hr2 (w.heap.size) (by (try simp); (try omega))).trans (show rowAt _ (w.heap.size) = _ by go_simp; rfl); have rw_u_1 := (hr2 (w.heap.size + 1) (by (try simp); (try omega))).trans (show rowAt _ (w.heap.size + 1) = _ by go_simp; rfl); have rw_u_2 := (hr2 (w.heap.size + 1 + 1) (by (try simp); (try omega))).trans (show rowAt _ (w.heap.size + 1 + 1) = _ by go_simp; rfl); have rw_u_3 := (hr2 (w.heap.size + 1 + 1 + 1) (by (try simp); (try omega))).trans (show rowAt _ (w.heap.size + 1 + 1 + 1) = _ by go_simp; rfl); have HK2 := hidE hu; clear hu
  simp only [IntKind.wrap_u32']
  go_wp2
  refine post_row2 rfl Try.underlying29 rfl infoA Try.underlying31 rfl infoF rfl rfl rfl (by go_simp; rfl) (by go_simp; rfl) rfl rfl ⟨?_, ?_⟩
  · unfold wishL
    rw [if_neg (by first | exact HX.out | (show _ % 1 = 0; omega))]
    rfl
  · (repeat (first | with_reducible exact Keeps.refl _ _ | (with_reducible refine Keeps.drew ?_) | (with_reducible refine Keeps.alloc ?_ _) | (with_reducible refine Keeps.setRow ?_ (fun h => absurd h (by omega)) _) | (with_reducible refine Keeps.setCell ?_ (fun h => absurd h (by simp only []; omega)) _) | (with_reducible refine Keeps.trans ?_ HK8.out) | (with_reducible refine same_then ?_ HK8.out (fun k hk => by omega)) | (with_reducible refine Keeps.trans ?_ HK7.out) | (with_reducible refine same_then ?_ HK7.out (fun k hk => by omega)) | (with_reducible refine Keeps.trans ?_ HK6.out) | (with_reducible refine same_then ?_ HK6.out (fun k hk => by omega)) | (with_reducible refine Keeps.trans ?_ HK5.out) | (with_reducible refine same_then ?_ HK5.out (fun k hk => by omega)) | (with_reducible refine Keeps.trans ?_ HK4.out) | (with_reducible refine same_then ?_ HK4.out (fun k hk => by omega)) | (with_reducible refine Keeps.trans ?_ HK3.out) | (with_reducible refine same_then ?_ HK3.out (fun k hk => by omega)) | (with_reducible refine Keeps.trans ?_ HK2.out) | (with_reducible refine same_then ?_ HK2.out (fun k hk => by omega)) | (with_reducible refine Keeps.trans ?_ HK1.out) | (with_reducible refine same_then ?_ HK1.out (fun k hk => by omega))))
set_option maxHeartbeats 2000000 in
set_option maxRecDepth 100000 in
theorem refw_56 (s : St) (a b imm : Int) (hs : s.Ok) (b0 : 0 ≤ b) (b1 : b < 8) (a0 : 0 ≤ a) (a1 : a < 8) (hi : (⟨56, a, b, imm⟩ : In).Ok) (hm : mayB ⟨56, a, b, imm⟩ false = true) (he : ((s.R 7 - 4) % 4294967296) % 4 = 0) (w : World) :
    Calls Try.prog 15 #[.agg (stA s), .agg #[.int .u8 56, .int .u8 a, .int .u8 b, .int .i32 imm]] w fun e w' => e = .returned (.tuple #[.agg (acA (wishL s ⟨56, a, b, imm⟩).1), .agg (flA (wishL s ⟨56, a, b, imm⟩).2)]) ∧ Same w w' := by
  have HM : Hid (∀ w, _) := hidE (fun w => may2_any _ false hi w)
  rw [hm] at HM
  simp only [inA] at HM
  have h8 : b.toNat < 8 := by omega
  have h9 : a.toNat < 8 := by omega
  have q0 := hs.r0 7
  have q1 := hs.r1 7
  have p0 := hs.r0 a.toNat
  have p1 := hs.r1 a.toNat
  have hx : (((s.R 7 - 4) % 4294967296) % 4 != 0) = false := by rw [he]; rfl
  have HX := hidE he
  clear he
  clear hm hi hs
  go_enter Try.func15, Try.ntmps15
  go_wp2_with fail
  refine (HM.out _).mono ?_
  rintro e w1 ⟨rfl, hk⟩
  (obtain ⟨hc1, hf1, hr1, -, -, -⟩ := same_facts hk); have lt_w1_0 : w.heap.size < w1.heap.size := (by have hh := (hk).size; (try simp at hh); omega); have lt_w1_1 : w.heap.size + 1 < w1.heap.size := (by have hh := (hk).size; (try simp at hh); omega); have lt_w1_2 : w.heap.size + 1 + 1 < w1.heap.size := (by have hh := (hk).size; (try simp at hh); omega); have lt_w1_3 : w.heap.size + 1 + 1 + 1 < w1.heap.size := (by have hh := (hk).size; (try simp at hh); omega); have lt1_w1_0 : w.heap.size < w1.heap.size + 1 := (by omega); have lt2_w1_0 : w.heap.size < w1.heap.size + 1 + 1 := (by omega); have lt1_w1_1 : w.heap.size + 1 < w1.heap.size + 1 := (by omega); have lt2_w1_1 : w.heap.size + 1 < w1.heap.size + 1 + 1 := (by omega); have lt1_w1_2 : w.heap.size + 1 + 1 < w1.heap.size + 1 := (by omega); have lt2_w1_2 : w.heap.size + 1 + 1 < w1.heap.size + 1 + 1 := (by omega); have lt1_w1_3 : w.heap.size + 1 + 1 + 1 < w1.heap.size + 1 := (by omega); have lt2_w1_3 : w.heap.size + 1 + 1 + 1 < w1.heap.size + 1 + 1 := (by omega); have rw_w1_0 := (hr1 (w.heap.size) (by (try simp); (try omega))).trans (show rowAt _ (w.heap.size) = _ by go_simp; rfl); have rw_w1_1 := (hr1 (w.heap.size + 1) (by (try simp); (try omega))).trans (show rowAt _ (w.heap.size + 1) = _ by go_simp; rfl); have rw_w1_2 := (hr1 (w.heap.size + 1 + 1) (by (try simp); (try omega))).trans (show rowAt _ (w.heap.size + 1 + 1) = _ by go_simp; rfl); have rw_w1_3 := (hr1 (w.heap.size + 1 + 1 + 1) (by (try simp); (try omega))).trans (show rowAt _ (w.heap.size + 1 + 1 + 1) = _ by go_simp; rfl); have HK1 := hidE hk; clear hk
  go_wp2_with fail
  refine wp_region_ra [0, 1, 2, 3, 4, 5, 6, 7, 8, 9] [] 0 (Same _) (by kernel_rfl) (by kernel_rfl) (fun u u' h k => Keeps.trans h k) (Keeps.refl _ _).drew ?_
  simp only [opsOf, List.filterMap_cons, List.filterMap_nil, List.getElem?_cons_zero, List.getElem?_cons_succ]
  repeat (refine seqV_run (v := ?_) rfl (fun u hu => ?_) ?_; rotate_left; (focus (obtain ⟨hc, hf, hr, hl, hn, hm⟩ := same_facts hu; clear hu; go_simp; first | done | with_reducible rfl)); (try simp only [Act.put, List.setIfInBounds_toArray, List.set_cons_zero, List.set_cons_succ]))
  refine seqV_nil ?_
  refine tailR_zero fun u hu _ => ?_
  (obtain ⟨hc2, hf2, hr2, -, -, -⟩ := same_facts hu); have lt_u_0 : w.heap.size < u.heap.size := (by have hh := (hu).size; (try simp at hh); omega); have lt_u_1 : w.heap.size + 1 < u.heap.size := (by have hh := (hu).size; (try simp at hh); omega); have lt_u_2 : w.heap.size + 1 + 1 < u.heap.size := (by have hh := (hu).size; (try simp at hh); omega); have lt_u_3 : w.heap.size + 1 + 1 + 1 < u.heap.size := (by have hh := (hu).size; (try simp at hh); omega); have lt1_u_0 : w.heap.size < u.heap.size + 1 := (by omega); have lt2_u_0 : w.heap.size < u.heap.size + 1 + 1 := (by omega); have lt1_u_1 : w.heap.size + 1 < u.heap.size + 1 := (by omega); have lt2_u_1 : w.heap.size + 1 < u.heap.size + 1 + 1 := (by omega); have lt1_u_2 : w.heap.size + 1 + 1 < u.heap.size + 1 := (by omega); have lt2_u_2 : w.heap.size + 1 + 1 < u.heap.size + 1 + 1 := (by omega); have lt1_u_3 : w.heap.size + 1 + 1 + 1 < u.heap.size + 1 := (by omega); have lt2_u_3 : w.heap.size + 1 + 1 + 1 < u.heap.size + 1 + 1 := (by omega); have rw_u_0 := (hr2 (w.heap.size) (by (try simp); (try omega))).trans (show rowAt _ (w.heap.size) = _ by go_simp; rfl); have rw_u_1 := (hr2 (w.heap.size + 1) (by (try simp); (try omega))).trans (show rowAt _ (w.heap.size + 1) = _ by go_simp; rfl); have rw_u_2 := (hr2 (w.heap.size + 1 + 1) (by (try simp); (try omega))).trans (show rowAt _ (w.heap.size + 1 + 1) = _ by go_simp; rfl); have rw_u_3 := (hr2 (w.heap.size + 1 + 1 + 1) (by (try simp); (try omega))).trans (show rowAt _ (w.heap.size + 1 + 1 + 1) = _ by go_simp; rfl); have HK2 := hidE hu; clear hu
  simp only [IntKind.wrap_u32']
  go_wp2
  refine post_row2 rfl Try.underlying29 rfl infoA Try.underlying31 rfl infoF rfl rfl rfl (by go_simp; rfl) (by go_simp; rfl) rfl rfl ⟨?_, ?_⟩
  · unfold wishL
    rw [if_pos (by first | exact HX.out | (show _ % 1 = 0; omega))]
    rfl
  · (repeat (first | with_reducible exact Keeps.refl _ _ | (with_reducible refine Keeps.drew ?_) | (with_reducible refine Keeps.alloc ?_ _) | (with_reducible refine Keeps.setRow ?_ (fun h => absurd h (by omega)) _) | (with_reducible refine Keeps.setCell ?_ (fun h => absurd h (by simp only []; omega)) _) | (with_reducible refine Keeps.trans ?_ HK8.out) | (with_reducible refine same_then ?_ HK8.out (fun k hk => by omega)) | (with_reducible refine Keeps.trans ?_ HK7.out) | (with_reducible refine same_then ?_ HK7.out (fun k hk => by omega)) | (with_reducible refine Keeps.trans ?_ HK6.out) | (with_reducible refine same_then ?_ HK6.out (fun k hk => by omega)) | (with_reducible refine Keeps.trans ?_ HK5.out) | (with_reducible refine same_then ?_ HK5.out (fun k hk => by omega)) | (with_reducible refine Keeps.trans ?_ HK4.out) | (with_reducible refine same_then ?_ HK4.out (fun k hk => by omega)) | (with_reducible refine Keeps.trans ?_ HK3.out) | (with_reducible refine same_then ?_ HK3.out (fun k hk => by omega)) | (with_reducible refine Keeps.trans ?_ HK2.out) | (with_reducible refine same_then ?_ HK2.out (fun k hk => by omega)) | (with_reducible refine Keeps.trans ?_ HK1.out) | (with_reducible refine same_then ?_ HK1.out (fun k hk => by omega))))
set_option maxHeartbeats 2000000 in
set_option maxRecDepth 100000 in
theorem refw_56_no (s : St) (a b imm : Int) (hs : s.Ok) (b0 : 0 ≤ b) (b1 : b < 8) (a0 : 0 ≤ a) (a1 : a < 8) (hi : (⟨56, a, b, imm⟩ : In).Ok) (hm : mayB ⟨56, a, b, imm⟩ false = true) (he : ((s.R 7 - 4) % 4294967296) % 4 ≠ 0) (w : World) :
    Calls Try.prog 15 #[.agg (stA s), .agg #[.int .u8 56, .int .u8 a, .int .u8 b, .int .i32 imm]] w fun e w' => e = .returned (.tuple #[.agg (acA (wishL s ⟨56, a, b, imm⟩).1), .agg (flA (wishL s ⟨56, a, b, imm⟩).2)]) ∧ Same w w' := by
  have HM : Hid (∀ w, _) := hidE (fun w => may2_any _ false hi w)
  rw [hm] at HM
  simp only [inA] at HM
  have h8 : b.toNat < 8 := by omega
  have h9 : a.toNat < 8 := by omega
  have q0 := hs.r0 7
  have q1 := hs.r1 7
  have p0 := hs.r0 a.toNat
  have p1 := hs.r1 a.toNat
  have hx : (((s.R 7 - 4) % 4294967296) % 4 != 0) = true := bne_iff_ne.mpr he
  have HX := hidE he
  clear he
  clear hm hi hs
  go_enter Try.func15, Try.ntmps15
  go_wp2_with fail
  refine (HM.out _).mono ?_
  rintro e w1 ⟨rfl, hk⟩
  (obtain ⟨hc1, hf1, hr1, -, -, -⟩ := same_facts hk); have lt_w1_0 : w.heap.size < w1.heap.size := (by have hh := (hk).size; (try simp at hh); omega); have lt_w1_1 : w.heap.size + 1 < w1.heap.size := (by have hh := (hk).size; (try simp at hh); omega); have lt_w1_2 : w.heap.size + 1 + 1 < w1.heap.size := (by have hh := (hk).size; (try simp at hh); omega); have lt_w1_3 : w.heap.size + 1 + 1 + 1 < w1.heap.size := (by have hh := (hk).size; (try simp at hh); omega); have lt1_w1_0 : w.heap.size < w1.heap.size + 1 := (by omega); have lt2_w1_0 : w.heap.size < w1.heap.size + 1 + 1 := (by omega); have lt1_w1_1 : w.heap.size + 1 < w1.heap.size + 1 := (by omega); have lt2_w1_1 : w.heap.size + 1 < w1.heap.size + 1 + 1 := (by omega); have lt1_w1_2 : w.heap.size + 1 + 1 < w1.heap.size + 1 := (by omega); have lt2_w1_2 : w.heap.size + 1 + 1 < w1.heap.size + 1 + 1 := (by omega); have lt1_w1_3 : w.heap.size + 1 + 1 + 1 < w1.heap.size + 1 := (by omega); have lt2_w1_3 : w.heap.size + 1 + 1 + 1 < w1.heap.size + 1 + 1 := (by omega); have rw_w1_0 := (hr1 (w.heap.size) (by (try simp); (try omega))).trans (show rowAt _ (w.heap.size) = _ by go_simp; rfl); have rw_w1_1 := (hr1 (w.heap.size + 1) (by (try simp); (try omega))).trans (show rowAt _ (w.heap.size + 1) = _ by go_simp; rfl); have rw_w1_2 := (hr1 (w.heap.size + 1 + 1) (by (try simp); (try omega))).trans (show rowAt _ (w.heap.size + 1 + 1) = _ by go_simp; rfl); have rw_w1_3 := (hr1 (w.heap.size + 1 + 1 + 1) (by (try simp); (try omega))).trans (show rowAt _ (w.heap.size + 1 + 1 + 1) = _ by go_simp; rfl); have HK1 := hidE hk; clear hk
  go_wp2_with fail
  refine wp_region_ra [0, 1, 2, 3, 4, 5, 6, 7, 8, 9] [] 0 (Same _) (by kernel_rfl) (by kernel_rfl) (fun u u' h k => Keeps.trans h k) (Keeps.refl _ _).drew ?_
  simp only [opsOf, List.filterMap_cons, List.filterMap_nil, List.getElem?_cons_zero, List.getElem?_cons_succ]
  repeat (refine seqV_run (v := ?_) rfl (fun u hu => ?_) ?_; rotate_left; (focus (obtain ⟨hc, hf, hr, hl, hn, hm⟩ := same_facts hu; clear hu; go_simp; first | done | with_reducible rfl)); (try simp only [Act.put, List.setIfInBounds_toArray, List.set_cons_zero, List.set_cons_succ]))
  refine seqV_nil ?_
  refine tailR_zero fun u hu _ => ?_
  (obtain ⟨hc2, hf2, hr2, -, -, -⟩ := same_facts hu); have lt_u_0 : w.heap.size < u.heap.size := (by have hh := (hu).size; (try simp at hh); omega); have lt_u_1 : w.heap.size + 1 < u.heap.size := (by have hh := (hu).size; (try simp at hh); omega); have lt_u_2 : w.heap.size + 1 + 1 < u.heap.size := (by have hh := (hu).size; (try simp at hh); omega); have lt_u_3 : w.heap.size + 1 + 1 + 1 < u.heap.size := (by have hh := (hu).size; (try simp at hh); omega); have lt1_u_0 : w.heap.size < u.heap.size + 1 := (by omega); have lt2_u_0 : w.heap.size < u.heap.size + 1 + 1 := (by omega); have lt1_u_1 : w.heap.size + 1 < u.heap.size + 1 := (by omega); have lt2_u_1 : w.heap.size + 1 < u.heap.size + 1 + 1 := (by omega); have lt1_u_2 : w.heap.size + 1 + 1 < u.heap.size + 1 := (by omega); have lt2_u_2 : w.heap.size + 1 + 1 < u.heap.size + 1 + 1 := (by omega); have lt1_u_3 : w.heap.size + 1 + 1 + 1 < u.heap.size + 1 := (by omega); have lt2_u_3 : w.heap.size + 1 + 1 + 1 < u.heap.size + 1 + 1 := (by omega); have rw_u_0 := (hr2 (w.heap.size) (by (try simp); (try omega))).trans (show rowAt _ (w.heap.size) = _ by go_simp; rfl); have rw_u_1 := (hr2 (w.heap.size + 1) (by (try simp); (try omega))).trans (show rowAt _ (w.heap.size + 1) = _ by go_simp; rfl); have rw_u_2 := (hr2 (w.heap.size + 1 + 1) (by (try simp); (try omega))).trans (show rowAt _ (w.heap.size + 1 + 1) = _ by go_simp; rfl); have rw_u_3 := (hr2 (w.heap.size + 1 + 1 + 1) (by (try simp); (try omega))).trans (show rowAt _ (w.heap.size + 1 + 1 + 1) = _ by go_simp; rfl); have HK2 := hidE hu; clear hu
  simp only [IntKind.wrap_u32']
  go_wp2
  refine post_row2 rfl Try.underlying29 rfl infoA Try.underlying31 rfl infoF rfl rfl rfl (by go_simp; rfl) (by go_simp; rfl) rfl rfl ⟨?_, ?_⟩
  · unfold wishL
    rw [if_neg (by first | exact HX.out | (show _ % 1 = 0; omega))]
    rfl
  · (repeat (first | with_reducible exact Keeps.refl _ _ | (with_reducible refine Keeps.drew ?_) | (with_reducible refine Keeps.alloc ?_ _) | (with_reducible refine Keeps.setRow ?_ (fun h => absurd h (by omega)) _) | (with_reducible refine Keeps.setCell ?_ (fun h => absurd h (by simp only []; omega)) _) | (with_reducible refine Keeps.trans ?_ HK8.out) | (with_reducible refine same_then ?_ HK8.out (fun k hk => by omega)) | (with_reducible refine Keeps.trans ?_ HK7.out) | (with_reducible refine same_then ?_ HK7.out (fun k hk => by omega)) | (with_reducible refine Keeps.trans ?_ HK6.out) | (with_reducible refine same_then ?_ HK6.out (fun k hk => by omega)) | (with_reducible refine Keeps.trans ?_ HK5.out) | (with_reducible refine same_then ?_ HK5.out (fun k hk => by omega)) | (with_reducible refine Keeps.trans ?_ HK4.out) | (with_reducible refine same_then ?_ HK4.out (fun k hk => by omega)) | (with_reducible refine Keeps.trans ?_ HK3.out) | (with_reducible refine same_then ?_ HK3.out (fun k hk => by omega)) | (with_reducible refine Keeps.trans ?_ HK2.out) | (with_reducible refine same_then ?_ HK2.out (fun k hk => by omega)) | (with_reducible refine Keeps.trans ?_ HK1.out) | (with_reducible refine same_then ?_ HK1.out (fun k hk => by omega))))
set_option maxHeartbeats 2000000 in
set_option maxRecDepth 100000 in
theorem refw_57 (s : St) (a b imm : Int) (hs : s.Ok) (b0 : 0 ≤ b) (b1 : b < 8) (a0 : 0 ≤ a) (a1 : a < 8) (hi : (⟨57, a, b, imm⟩ : In).Ok) (hm : mayB ⟨57, a, b, imm⟩ false = true) (he : (s.R 7) % 4 = 0) (w : World) :
    Calls Try.prog 15 #[.agg (stA s), .agg #[.int .u8 57, .int .u8 a, .int .u8 b, .int .i32 imm]] w fun e w' => e = .returned (.tuple #[.agg (acA (wishL s ⟨57, a, b, imm⟩).1), .agg (flA (wishL s ⟨57, a, b, imm⟩).2)]) ∧ Same w w' := by
  have HM : Hid (∀ w, _) := hidE (fun w => may2_any _ false hi w)
  rw [hm] at HM
  simp only [inA] at HM
  have h8 : b.toNat < 8 := by omega
  have h9 : a.toNat < 8 := by omega
  have q0 := hs.r0 7
  have q1 := hs.r1 7
  have p0 := hs.r0 a.toNat
  have p1 := hs.r1 a.toNat
  have hx : ((s.R 7) % 4 != 0) = false := by rw [he]; rfl
  have HX := hidE he
  clear he
  clear hm hi hs
  go_enter Try.func15, Try.ntmps15
  go_wp2_with fail
  refine (HM.out _).mono ?_
  rintro e w1 ⟨rfl, hk⟩
  (obtain ⟨hc1, hf1, hr1, -, -, -⟩ := same_facts hk); have lt_w1_0 : w.heap.size < w1.heap.size := (by have hh := (hk).size; (try simp at hh); omega); have lt_w1_1 : w.heap.size + 1 < w1.heap.size := (by have hh := (hk).size; (try simp at hh); omega); have lt_w1_2 : w.heap.size + 1 + 1 < w1.heap.size := (by have hh := (hk).size; (try simp at hh); omega); have lt_w1_3 : w.heap.size + 1 + 1 + 1 < w1.heap.size := (by have hh := (hk).size; (try simp at hh); omega); have lt1_w1_0 : w.heap.size < w1.heap.size + 1 := (by omega); have lt2_w1_0 : w.heap.size < w1.heap.size + 1 + 1 := (by omega); have lt1_w1_1 : w.heap.size + 1 < w1.heap.size + 1 := (by omega); have lt2_w1_1 : w.heap.size + 1 < w1.heap.size + 1 + 1 := (by omega); have lt1_w1_2 : w.heap.size + 1 + 1 < w1.heap.size + 1 := (by omega); have lt2_w1_2 : w.heap.size + 1 + 1 < w1.heap.size + 1 + 1 := (by omega); have lt1_w1_3 : w.heap.size + 1 + 1 + 1 < w1.heap.size + 1 := (by omega); have lt2_w1_3 : w.heap.size + 1 + 1 + 1 < w1.heap.size + 1 + 1 := (by omega); have rw_w1_0 := (hr1 (w.heap.size) (by (try simp); (try omega))).trans (show rowAt _ (w.heap.size) = _ by go_simp; rfl); have rw_w1_1 := (hr1 (w.heap.size + 1) (by (try simp); (try omega))).trans (show rowAt _ (w.heap.size + 1) = _ by go_simp; rfl); have rw_w1_2 := (hr1 (w.heap.size + 1 + 1) (by (try simp); (try omega))).trans (show rowAt _ (w.heap.size + 1 + 1) = _ by go_simp; rfl); have rw_w1_3 := (hr1 (w.heap.size + 1 + 1 + 1) (by (try simp); (try omega))).trans (show rowAt _ (w.heap.size + 1 + 1 + 1) = _ by go_simp; rfl); have HK1 := hidE hk; clear hk
  go_wp2_with fail
  refine wp_region_ra [0, 1, 2, 3, 4, 5, 6, 7, 8, 9] [] 0 (Same _) (by kernel_rfl) (by kernel_rfl) (fun u u' h k => Keeps.trans h k) (Keeps.refl _ _).drew ?_
  simp only [opsOf, List.filterMap_cons, List.filterMap_nil, List.getElem?_cons_zero, List.getElem?_cons_succ]
  repeat (refine seqV_run (v := ?_) rfl (fun u hu => ?_) ?_; rotate_left; (focus (obtain ⟨hc, hf, hr, hl, hn, hm⟩ := same_facts hu; clear hu; go_simp; first | done | with_reducible rfl)); (try simp only [Act.put, List.setIfInBounds_toArray, List.set_cons_zero, List.set_cons_succ]))
  refine seqV_nil ?_
  refine tailR_zero fun u hu _ => ?_
  (obtain ⟨hc2, hf2, hr2, -, -, -⟩ := same_facts hu); have lt_u_0 : w.heap.size < u.heap.size := (by have hh := (hu).size; (try simp at hh); omega); have lt_u_1 : w.heap.size + 1 < u.heap.size := (by have hh := (hu).size; (try simp at hh); omega); have lt_u_2 : w.heap.size + 1 + 1 < u.heap.size := (by have hh := (hu).size; (try simp at hh); omega); have lt_u_3 : w.heap.size + 1 + 1 + 1 < u.heap.size := (by have hh := (hu).size; (try simp at hh); omega); have lt1_u_0 : w.heap.size < u.heap.size + 1 := (by omega); have lt2_u_0 : w.heap.size < u.heap.size + 1 + 1 := (by omega); have lt1_u_1 : w.heap.size + 1 < u.heap.size + 1 := (by omega); have lt2_u_1 : w.heap.size + 1 < u.heap.size + 1 + 1 := (by omega); have lt1_u_2 : w.heap.size + 1 + 1 < u.heap.size + 1 := (by omega); have lt2_u_2 : w.heap.size + 1 + 1 < u.heap.size + 1 + 1 := (by omega); have lt1_u_3 : w.heap.size + 1 + 1 + 1 < u.heap.size + 1 := (by omega); have lt2_u_3 : w.heap.size + 1 + 1 + 1 < u.heap.size + 1 + 1 := (by omega); have rw_u_0 := (hr2 (w.heap.size) (by (try simp); (try omega))).trans (show rowAt _ (w.heap.size) = _ by go_simp; rfl); have rw_u_1 := (hr2 (w.heap.size + 1) (by (try simp); (try omega))).trans (show rowAt _ (w.heap.size + 1) = _ by go_simp; rfl); have rw_u_2 := (hr2 (w.heap.size + 1 + 1) (by (try simp); (try omega))).trans (show rowAt _ (w.heap.size + 1 + 1) = _ by go_simp; rfl); have rw_u_3 := (hr2 (w.heap.size + 1 + 1 + 1) (by (try simp); (try omega))).trans (show rowAt _ (w.heap.size + 1 + 1 + 1) = _ by go_simp; rfl); have HK2 := hidE hu; clear hu
  simp only [IntKind.wrap_u32']
  go_wp2
  refine post_row2 rfl Try.underlying29 rfl infoA Try.underlying31 rfl infoF rfl rfl rfl (by go_simp; rfl) (by go_simp; rfl) rfl rfl ⟨?_, ?_⟩
  · unfold wishL
    rw [if_pos (by first | exact HX.out | (show _ % 1 = 0; omega))]
    rfl
  · (repeat (first | with_reducible exact Keeps.refl _ _ | (with_reducible refine Keeps.drew ?_) | (with_reducible refine Keeps.alloc ?_ _) | (with_reducible refine Keeps.setRow ?_ (fun h => absurd h (by omega)) _) | (with_reducible refine Keeps.setCell ?_ (fun h => absurd h (by simp only []; omega)) _) | (with_reducible refine Keeps.trans ?_ HK8.out) | (with_reducible refine same_then ?_ HK8.out (fun k hk => by omega)) | (with_reducible refine Keeps.trans ?_ HK7.out) | (with_reducible refine same_then ?_ HK7.out (fun k hk => by omega)) | (with_reducible refine Keeps.trans ?_ HK6.out) | (with_reducible refine same_then ?_ HK6.out (fun k hk => by omega)) | (with_reducible refine Keeps.trans ?_ HK5.out) | (with_reducible refine same_then ?_ HK5.out (fun k hk => by omega)) | (with_reducible refine Keeps.trans ?_ HK4.out) | (with_reducible refine same_then ?_ HK4.out (fun k hk => by omega)) | (with_reducible refine Keeps.trans ?_ HK3.out) | (with_reducible refine same_then ?_ HK3.out (fun k hk => by omega)) | (with_reducible refine Keeps.trans ?_ HK2.out) | (with_reducible refine same_then ?_ HK2.out (fun k hk => by omega)) | (with_reducible refine Keeps.trans ?_ HK1.out) | (with_reducible refine same_then ?_ HK1.out (fun k hk => by omega))))
set_option maxHeartbeats 2000000 in
set_option maxRecDepth 100000 in
theorem refw_57_no (s : St) (a b imm : Int) (hs : s.Ok) (b0 : 0 ≤ b) (b1 : b < 8) (a0 : 0 ≤ a) (a1 : a < 8) (hi : (⟨57, a, b, imm⟩ : In).Ok) (hm : mayB ⟨57, a, b, imm⟩ false = true) (he : (s.R 7) % 4 ≠ 0) (w : World) :
    Calls Try.prog 15 #[.agg (stA s), .agg #[.int .u8 57, .int .u8 a, .int .u8 b, .int .i32 imm]] w fun e w' => e = .returned (.tuple #[.agg (acA (wishL s ⟨57, a, b, imm⟩).1), .agg (flA (wishL s ⟨57, a, b, imm⟩).2)]) ∧ Same w w' := by
  have HM : Hid (∀ w, _) := hidE (fun w => may2_any _ false hi w)
  rw [hm] at HM
  simp only [inA] at HM
  have h8 : b.toNat < 8 := by omega
  have h9 : a.toNat < 8 := by omega
  have q0 := hs.r0 7
  have q1 := hs.r1 7
  have p0 := hs.r0 a.toNat
  have p1 := hs.r1 a.toNat
  have hx : ((s.R 7) % 4 != 0) = true := bne_iff_ne.mpr he
  have HX := hidE he
  clear he
  clear hm hi hs
  go_enter Try.func15, Try.ntmps15
  go_wp2_with fail
  refine (HM.out _).mono ?_
  rintro e w1 ⟨rfl, hk⟩
  (obtain ⟨hc1, hf1, hr1, -, -, -⟩ := same_facts hk); have lt_w1_0 : w.heap.size < w1.heap.size := (by have hh := (hk).size; (try simp at hh); omega); have lt_w1_1 : w.heap.size + 1 < w1.heap.size := (by have hh := (hk).size; (try simp at hh); omega); have lt_w1_2 : w.heap.size + 1 + 1 < w1.heap.size := (by have hh := (hk).size; (try simp at hh); omega); have lt_w1_3 : w.heap.size + 1 + 1 + 1 < w1.heap.size := (by have hh := (hk).size; (try simp at hh); omega); have lt1_w1_0 : w.heap.size < w1.heap.size + 1 := (by omega); have lt2_w1_0 : w.heap.size < w1.heap.size + 1 + 1 := (by omega); have lt1_w1_1 : w.heap.size + 1 < w1.heap.size + 1 := (by omega); have lt2_w1_1 : w.heap.size + 1 < w1.heap.size + 1 + 1 := (by omega); have lt1_w1_2 : w.heap.size + 1 + 1 < w1.heap.size + 1 := (by omega); have lt2_w1_2 : w.heap.size + 1 + 1 < w1.heap.size + 1 + 1 := (by omega); have lt1_w1_3 : w.heap.size + 1 + 1 + 1 < w1.heap.size + 1 := (by omega); have lt2_w1_3 : w.heap.size + 1 + 1 + 1 < w1.heap.size + 1 + 1 := (by omega); have rw_w1_0 := (hr1 (w.heap.size) (by (try simp); (try omega))).trans (show rowAt _ (w.heap.size) = _ by go_simp; rfl); have rw_w1_1 := (hr1 (w.heap.size + 1) (by (try simp); (try omega))).trans (show rowAt _ (w.heap.size + 1) = _ by go_simp; rfl); have rw_w1_2 := (hr1 (w.heap.size + 1 + 1) (by (try simp); (try omega))).trans (show rowAt _ (w.heap.size + 1 + 1) = _ by go_simp; rfl); have rw_w1_3 := (hr1 (w.heap.size + 1 + 1 + 1) (by (try simp); (try omega))).trans (show rowAt _ (w.heap.size + 1 + 1 + 1) = _ by go_simp; rfl); have HK1 := hidE hk; clear hk
  go_wp2_with fail
  refine wp_region_ra [0, 1, 2, 3, 4, 5, 6, 7, 8, 9] [] 0 (Same _) (by kernel_rfl) (by kernel_rfl) (fun u u' h k => Keeps.trans h k) (Keeps.refl _ _).drew ?_
  simp only [opsOf, List.filterMap_cons, List.filterMap_nil, List.getElem?_cons_zero, List.getElem?_cons_succ]
  repeat (refine seqV_run (v := ?_) rfl (fun u hu => ?_) ?_; rotate_left; (focus (obtain ⟨hc, hf, hr, hl, hn, hm⟩ := same_facts hu; clear hu; go_simp; first | done | with_reducible rfl)); (try simp only [Act.put, List.setIfInBounds_toArray, List.set_cons_zero, List.set_cons_succ]))
  refine seqV_nil ?_
  refine tailR_zero fun u hu _ => ?_
  (obtain ⟨hc2, hf2, hr2, -, -, -⟩ := same_facts hu); have lt_u_0 : w.heap.size < u.heap.size := (by have hh := (hu).size; (try simp at hh); omega); have lt_u_1 : w.heap.size + 1 < u.heap.size := (by have hh := (hu).size; (try simp at hh); omega); have lt_u_2 : w.heap.size + 1 + 1 < u.heap.size := (by have hh := (hu).size; (try simp at hh); omega); have lt_u_3 : w.heap.size + 1 + 1 + 1 < u.heap.size := (by have hh := (hu).size; (try simp at hh); omega); have lt1_u_0 : w.heap.size < u.heap.size + 1 := (by omega); have lt2_u_0 : w.heap.size < u.heap.size + 1 + 1 := (by omega); have lt1_u_1 : w.heap.size + 1 < u.heap.size + 1 := (by omega); have lt2_u_1 : w.heap.size + 1 < u.heap.size + 1 + 1 := (by omega); have lt1_u_2 : w.heap.size + 1 + 1 < u.heap.size + 1 := (by omega); have lt2_u_2 : w.heap.size + 1 + 1 < u.heap.size + 1 + 1 := (by omega); have lt1_u_3 : w.heap.size + 1 + 1 + 1 < u.heap.size + 1 := (by omega); have lt2_u_3 : w.heap.size + 1 + 1 + 1 < u.heap.size + 1 + 1 := (by omega); have rw_u_0 := (hr2 (w.heap.size) (by (try simp); (try omega))).trans (show rowAt _ (w.heap.size) = _ by go_simp; rfl); have rw_u_1 := (hr2 (w.heap.size + 1) (by (try simp); (try omega))).trans (show rowAt _ (w.heap.size + 1) = _ by go_simp; rfl); have rw_u_2 := (hr2 (w.heap.size + 1 + 1) (by (try simp); (try omega))).trans (show rowAt _ (w.heap.size + 1 + 1) = _ by go_simp; rfl); have rw_u_3 := (hr2 (w.heap.size + 1 + 1 + 1) (by (try simp); (try omega))).trans (show rowAt _ (w.heap.size + 1 + 1 + 1) = _ by go_simp; rfl); have HK2 := hidE hu; clear hu
  simp only [IntKind.wrap_u32']
  go_wp2
  refine post_row2 rfl Try.underlying29 rfl infoA Try.underlying31 rfl infoF rfl rfl rfl (by go_simp; rfl) (by go_simp; rfl) rfl rfl ⟨?_, ?_⟩
  · unfold wishL
    rw [if_neg (by first | exact HX.out | (show _ % 1 = 0; omega))]
    rfl
  · (repeat (first | with_reducible exact Keeps.refl _ _ | (with_reducible refine Keeps.drew ?_) | (with_reducible refine Keeps.alloc ?_ _) | (with_reducible refine Keeps.setRow ?_ (fun h => absurd h (by omega)) _) | (with_reducible refine Keeps.setCell ?_ (fun h => absurd h (by simp only []; omega)) _) | (with_reducible refine Keeps.trans ?_ HK8.out) | (with_reducible refine same_then ?_ HK8.out (fun k hk => by omega)) | (with_reducible refine Keeps.trans ?_ HK7.out) | (with_reducible refine same_then ?_ HK7.out (fun k hk => by omega)) | (with_reducible refine Keeps.trans ?_ HK6.out) | (with_reducible refine same_then ?_ HK6.out (fun k hk => by omega)) | (with_reducible refine Keeps.trans ?_ HK5.out) | (with_reducible refine same_then ?_ HK5.out (fun k hk => by omega)) | (with_reducible refine Keeps.trans ?_ HK4.out) | (with_reducible refine same_then ?_ HK4.out (fun k hk => by omega)) | (with_reducible refine Keeps.trans ?_ HK3.out) | (with_reducible refine same_then ?_ HK3.out (fun k hk => by omega)) | (with_reducible refine Keeps.trans ?_ HK2.out) | (with_reducible refine same_then ?_ HK2.out (fun k hk => by omega)) | (with_reducible refine Keeps.trans ?_ HK1.out) | (with_reducible refine same_then ?_ HK1.out (fun k hk => by omega))))
set_option maxHeartbeats 2000000 in
set_option maxRecDepth 100000 in
theorem refw_58 (s : St) (a b imm : Int) (hs : s.Ok) (b0 : 0 ≤ b) (b1 : b < 8) (a0 : 0 ≤ a) (a1 : a < 8) (hi : (⟨58, a, b, imm⟩ : In).Ok) (hm : mayB ⟨58, a, b, imm⟩ false = true) (he : ((s.R b.toNat + imm) % 4294967296) % 4 = 0) (w : World) :
    Calls Try.prog 15 #[.agg (stA s), .agg #[.int .u8 58, .int .u8 a, .int .u8 b, .int .i32 imm]] w fun e w' => e = .returned (.tuple #[.agg (acA (wishL s ⟨58, a, b, imm⟩).1), .agg (flA (wishL s ⟨58, a, b, imm⟩).2)]) ∧ Same w w' := by
  have HM : Hid (∀ w, _) := hidE (fun w => may2_any _ false hi w)
  rw [hm] at HM
  simp only [inA] at HM
  have h8 : b.toNat < 8 := by omega
  have h9 : a.toNat < 8 := by omega
  have q0 := hs.r0 7
  have q1 := hs.r1 7
  have p0 := hs.r0 a.toNat
  have p1 := hs.r1 a.toNat
  have hx : (((s.R b.toNat + imm) % 4294967296) % 4 != 0) = false := by rw [he]; rfl
  have HX := hidE he
  clear he
  clear hm hi hs
  go_enter Try.func15, Try.ntmps15
  go_wp2_with fail
  refine (HM.out _).mono ?_
  rintro e w1 ⟨rfl, hk⟩
  (obtain ⟨hc1, hf1, hr1, -, -, -⟩ := same_facts hk); have lt_w1_0 : w.heap.size < w1.heap.size := (by have hh := (hk).size; (try simp at hh); omega); have lt_w1_1 : w.heap.size + 1 < w1.heap.size := (by have hh := (hk).size; (try simp at hh); omega); have lt_w1_2 : w.heap.size + 1 + 1 < w1.heap.size := (by have hh := (hk).size; (try simp at hh); omega); have lt_w1_3 : w.heap.size + 1 + 1 + 1 < w1.heap.size := (by have hh := (hk).size; (try simp at hh); omega); have lt1_w1_0 : w.heap.size < w1.heap.size + 1 := (by omega); have lt2_w1_0 : w.heap.size < w1.heap.size + 1 + 1 := (by omega); have lt1_w1_1 : w.heap.size + 1 < w1.heap.size + 1 := (by omega); have lt2_w1_1 : w.heap.size + 1 < w1.heap.size + 1 + 1 := (by omega); have lt1_w1_2 : w.heap.size + 1 + 1 < w1.heap.size + 1 := (by omega); have lt2_w1_2 : w.heap.size + 1 + 1 < w1.heap.size + 1 + 1 := (by omega); have lt1_w1_3 : w.heap.size + 1 + 1 + 1 < w1.heap.size + 1 := (by omega); have lt2_w1_3 : w.heap.size + 1 + 1 + 1 < w1.heap.size + 1 + 1 := (by omega); have rw_w1_0 := (hr1 (w.heap.size) (by (try simp); (try omega))).trans (show rowAt _ (w.heap.size) = _ by go_simp; rfl); have rw_w1_1 := (hr1 (w.heap.size + 1) (by (try simp); (try omega))).trans (show rowAt _ (w.heap.size + 1) = _ by go_simp; rfl); have rw_w1_2 := (hr1 (w.heap.size + 1 + 1) (by (try simp); (try omega))).trans (show rowAt _ (w.heap.size + 1 + 1) = _ by go_simp; rfl); have rw_w1_3 := (hr1 (w.heap.size + 1 + 1 + 1) (by (try simp); (try omega))).trans (show rowAt _ (w.heap.size + 1 + 1 + 1) = _ by go_simp; rfl); have HK1 := hidE hk; clear hk
  go_wp2_with fail
  refine wp_region_ra [0, 1, 2, 3, 4, 5, 6, 7, 8, 9] [] 0 (Same _) (by kernel_rfl) (by kernel_rfl) (fun u u' h k => Keeps.trans h k) (Keeps.refl _ _).drew ?_
  simp only [opsOf, List.filterMap_cons, List.filterMap_nil, List.getElem?_cons_zero, List.getElem?_cons_succ]
  repeat (refine seqV_run (v := ?_) rfl (fun u hu => ?_) ?_; rotate_left; (focus (obtain ⟨hc, hf, hr, hl, hn, hm⟩ := same_facts hu; clear hu; go_simp; first | done | with_reducible rfl)); (try simp only [Act.put, List.setIfInBounds_toArray, List.set_cons_zero, List.set_cons_succ]))
  refine seqV_nil ?_
  refine tailR_zero fun u hu _ => ?_
  (obtain ⟨hc2, hf2, hr2, -, -, -⟩ := same_facts hu); have lt_u_0 : w.heap.size < u.heap.size := (by have hh := (hu).size; (try simp at hh); omega); have lt_u_1 : w.heap.size + 1 < u.heap.size := (by have hh := (hu).size; (try simp at hh); omega); have lt_u_2 : w.heap.size + 1 + 1 < u.heap.size := (by have hh := (hu).size; (try simp at hh); omega); have lt_u_3 : w.heap.size + 1 + 1 + 1 < u.heap.size := (by have hh := (hu).size; (try simp at hh); omega); have lt1_u_0 : w.heap.size < u.heap.size + 1 := (by omega); have lt2_u_0 : w.heap.size < u.heap.size + 1 + 1 := (by omega); have lt1_u_1 : w.heap.size + 1 < u.heap.size + 1 := (by omega); have lt2_u_1 : w.heap.size + 1 < u.heap.size + 1 + 1 := (by omega); have lt1_u_2 : w.heap.size + 1 + 1 < u.heap.size + 1 := (by omega); have lt2_u_2 : w.heap.size + 1 + 1 < u.heap.size + 1 + 1 := (by omega); have lt1_u_3 : w.heap.size + 1 + 1 + 1 < u.heap.size + 1 := (by omega); have lt2_u_3 : w.heap.size + 1 + 1 + 1 < u.heap.size + 1 + 1 := (by omega); have rw_u_0 := (hr2 (w.heap.size) (by (try simp); (try omega))).trans (show rowAt _ (w.heap.size) = _ by go_simp; rfl); have rw_u_1 := (hr2 (w.heap.size + 1) (by (try simp); (try omega))).trans (show rowAt _ (w.heap.size + 1) = _ by go_simp; rfl); have rw_u_2 := (hr2 (w.heap.size + 1 + 1) (by (try simp); (try omega))).trans (show rowAt _ (w.heap.size + 1 + 1) = _ by go_simp; rfl); have rw_u_3 := (hr2 (w.heap.size + 1 + 1 + 1) (by (try simp); (try omega))).trans (show rowAt _ (w.heap.size + 1 + 1 + 1) = _ by go_simp; rfl); have HK2 := hidE hu; clear hu
  simp only [IntKind.wrap_u32']
  go_wp2
  refine post_row2 rfl Try.underlying29 rfl infoA Try.underlying31 rfl infoF rfl rfl rfl (by go_simp; rfl) (by go_simp; rfl) rfl rfl ⟨?_, ?_⟩
  · unfold wishL
    rw [if_pos (by first | exact HX.out | (show _ % 1 = 0; omega))]
    rfl
  · (repeat (first | with_reducible exact Keeps.refl _ _ | (with_reducible refine Keeps.drew ?_) | (with_reducible refine Keeps.alloc ?_ _) | (with_reducible refine Keeps.setRow ?_ (fun h => absurd h (by omega)) _) | (with_reducible refine Keeps.setCell ?_ (fun h => absurd h (by simp only []; omega)) _) | (with_reducible refine Keeps.trans ?_ HK8.out) | (with_reducible refine same_then ?_ HK8.out (fun k hk => by omega)) | (with_reducible refine Keeps.trans ?_ HK7.out) | (with_reducible refine same_then ?_ HK7.out (fun k hk => by omega)) | (with_reducible refine Keeps.trans ?_ HK6.out) | (with_reducible refine same_then ?_ HK6.out (fun k hk => by omega)) | (with_reducible refine Keeps.trans ?_ HK5.out) | (with_reducible refine same_then ?_ HK5.out (fun k hk => by omega)) | (with_reducible refine Keeps.trans ?_ HK4.out) | (with_reducible refine same_then ?_ HK4.out (fun k hk => by omega)) | (with_reducible refine Keeps.trans ?_ HK3.out) | (with_reducible refine same_then ?_ HK3.out (fun k hk => by omega)) | (with_reducible refine Keeps.trans ?_ HK2.out) | (with_reducible refine same_then ?_ HK2.out (fun k hk => by omega)) | (with_reducible refine Keeps.trans ?_ HK1.out) | (with_reducible refine same_then ?_ HK1.out (fun k hk => by omega))))
set_option maxHeartbeats 2000000 in
set_option maxRecDepth 100000 in
theorem refw_58_no (s : St) (a b imm : Int) (hs : s.Ok) (b0 : 0 ≤ b) (b1 : b < 8) (a0 : 0 ≤ a) (a1 : a < 8) (hi : (⟨58, a, b, imm⟩ : In).Ok) (hm : mayB ⟨58, a, b, imm⟩ false = true) (he : ((s.R b.toNat + imm) % 4294967296) % 4 ≠ 0) (w : World) :
    Calls Try.prog 15 #[.agg (stA s), .agg #[.int .u8 58, .int .u8 a, .int .u8 b, .int .i32 imm]] w fun e w' => e = .returned (.tuple #[.agg (acA (wishL s ⟨58, a, b, imm⟩).1), .agg (flA (wishL s ⟨58, a, b, imm⟩).2)]) ∧ Same w w' := by
  have HM : Hid (∀ w, _) := hidE (fun w => may2_any _ false hi w)
  rw [hm] at HM
  simp only [inA] at HM
  have h8 : b.toNat < 8 := by omega
  have h9 : a.toNat < 8 := by omega
  have q0 := hs.r0 7
  have q1 := hs.r1 7
  have p0 := hs.r0 a.toNat
  have p1 := hs.r1 a.toNat
  have hx : (((s.R b.toNat + imm) % 4294967296) % 4 != 0) = true := bne_iff_ne.mpr he
  have HX := hidE he
  clear he
  clear hm hi hs
  go_enter Try.func15, Try.ntmps15
  go_wp2_with fail
  refine (HM.out _).mono ?_
  rintro e w1 ⟨rfl, hk⟩
  (obtain ⟨hc1, hf1, hr1, -, -, -⟩ := same_facts hk); have lt_w1_0 : w.heap.size < w1.heap.size := (by have hh := (hk).size; (try simp at hh); omega); have lt_w1_1 : w.heap.size + 1 < w1.heap.size := (by have hh := (hk).size; (try simp at hh); omega); have lt_w1_2 : w.heap.size + 1 + 1 < w1.heap.size := (by have hh := (hk).size; (try simp at hh); omega); have lt_w1_3 : w.heap.size + 1 + 1 + 1 < w1.heap.size := (by have hh := (hk).size; (try simp at hh); omega); have lt1_w1_0 : w.heap.size < w1.heap.size + 1 := (by omega); have lt2_w1_0 : w.heap.size < w1.heap.size + 1 + 1 := (by omega); have lt1_w1_1 : w.heap.size + 1 < w1.heap.size + 1 := (by omega); have lt2_w1_1 : w.heap.size + 1 < w1.heap.size + 1 + 1 := (by omega); have lt1_w1_2 : w.heap.size + 1 + 1 < w1.heap.size + 1 := (by omega); have lt2_w1_2 : w.heap.size + 1 + 1 < w1.heap.size + 1 + 1 := (by omega); have lt1_w1_3 : w.heap.size + 1 + 1 + 1 < w1.heap.size + 1 := (by omega); have lt2_w1_3 : w.heap.size + 1 + 1 + 1 < w1.heap.size + 1 + 1 := (by omega); have rw_w1_0 := (hr1 (w.heap.size) (by (try simp); (try omega))).trans (show rowAt _ (w.heap.size) = _ by go_simp; rfl); have rw_w1_1 := (hr1 (w.heap.size + 1) (by (try simp); (try omega))).trans (show rowAt _ (w.heap.size + 1) = _ by go_simp; rfl); have rw_w1_2 := (hr1 (w.heap.size + 1 + 1) (by (try simp); (try omega))).trans (show rowAt _ (w.heap.size + 1 + 1) = _ by go_simp; rfl); have rw_w1_3 := (hr1 (w.heap.size + 1 + 1 + 1) (by (try simp); (try omega))).trans (show rowAt _ (w.heap.size + 1 + 1 + 1) = _ by go_simp; rfl); have HK1 := hidE hk; clear hk
  go_wp2_with fail
  refine wp_region_ra [0, 1, 2, 3, 4, 5, 6, 7, 8, 9] [] 0 (Same _) (by kernel_rfl) (by kernel_rfl) (fun u u' h k => Keeps.trans h k) (Keeps.refl _ _).drew ?_
  simp only [opsOf, List.filterMap_cons, List.filterMap_nil, List.getElem?_cons_zero, List.getElem?_cons_succ]
  repeat (refine seqV_run (v := ?_) rfl (fun u hu => ?_) ?_; rotate_left; (focus (obtain ⟨hc, hf, hr, hl, hn, hm⟩ := same_facts hu; clear hu; go_simp; first | done | with_reducible rfl)); (try simp only [Act.put, List.setIfInBounds_toArray, List.set_cons_zero, List.set_cons_succ]))
  refine seqV_nil ?_
  refine tailR_zero fun u hu _ => ?_
  (obtain ⟨hc2, hf2, hr2, -, -, -⟩ := same_facts hu); have lt_u_0 : w.heap.size < u.heap.size := (by have hh := (hu).size; (try simp at hh); omega); have lt_u_1 : w.heap.size + 1 < u.heap.size := (by have hh := (hu).size; (try simp at hh); omega); have lt_u_2 : w.heap.size + 1 + 1 < u.heap.size := (by have hh := (hu).size; (try simp at hh); omega); have lt_u_3 : w.heap.size + 1 + 1 + 1 < u.heap.size := (by have hh := (hu).size; (try simp at hh); omega); have lt1_u_0 : w.heap.size < u.heap.size + 1 := (by omega); have lt2_u_0 : w.heap.size < u.heap.size + 1 + 1 := (by omega); have lt1_u_1 : w.heap.size + 1 < u.heap.size + 1 := (by omega); have lt2_u_1 : w.heap.size + 1 < u.heap.size + 1 + 1 := (by omega); have lt1_u_2 : w.heap.size + 1 + 1 < u.heap.size + 1 := (by omega); have lt2_u_2 : w.heap.size + 1 + 1 < u.heap.size + 1 + 1 := (by omega); have lt1_u_3 : w.heap.size + 1 + 1 + 1 < u.heap.size + 1 := (by omega); have lt2_u_3 : w.heap.size + 1 + 1 + 1 < u.heap.size + 1 + 1 := (by omega); have rw_u_0 := (hr2 (w.heap.size) (by (try simp); (try omega))).trans (show rowAt _ (w.heap.size) = _ by go_simp; rfl); have rw_u_1 := (hr2 (w.heap.size + 1) (by (try simp); (try omega))).trans (show rowAt _ (w.heap.size + 1) = _ by go_simp; rfl); have rw_u_2 := (hr2 (w.heap.size + 1 + 1) (by (try simp); (try omega))).trans (show rowAt _ (w.heap.size + 1 + 1) = _ by go_simp; rfl); have rw_u_3 := (hr2 (w.heap.size + 1 + 1 + 1) (by (try simp); (try omega))).trans (show rowAt _ (w.heap.size + 1 + 1 + 1) = _ by go_simp; rfl); have HK2 := hidE hu; clear hu
  simp only [IntKind.wrap_u32']
  go_wp2
  refine post_row2 rfl Try.underlying29 rfl infoA Try.underlying31 rfl infoF rfl rfl rfl (by go_simp; rfl) (by go_simp; rfl) rfl rfl ⟨?_, ?_⟩
  · unfold wishL
    rw [if_neg (by first | exact HX.out | (show _ % 1 = 0; omega))]
    rfl
  · (repeat (first | with_reducible exact Keeps.refl _ _ | (with_reducible refine Keeps.drew ?_) | (with_reducible refine Keeps.alloc ?_ _) | (with_reducible refine Keeps.setRow ?_ (fun h => absurd h (by omega)) _) | (with_reducible refine Keeps.setCell ?_ (fun h => absurd h (by simp only []; omega)) _) | (with_reducible refine Keeps.trans ?_ HK8.out) | (with_reducible refine same_then ?_ HK8.out (fun k hk => by omega)) | (with_reducible refine Keeps.trans ?_ HK7.out) | (with_reducible refine same_then ?_ HK7.out (fun k hk => by omega)) | (with_reducible refine Keeps.trans ?_ HK6.out) | (with_reducible refine same_then ?_ HK6.out (fun k hk => by omega)) | (with_reducible refine Keeps.trans ?_ HK5.out) | (with_reducible refine same_then ?_ HK5.out (fun k hk => by omega)) | (with_reducible refine Keeps.trans ?_ HK4.out) | (with_reducible refine same_then ?_ HK4.out (fun k hk => by omega)) | (with_reducible refine Keeps.trans ?_ HK3.out) | (with_reducible refine same_then ?_ HK3.out (fun k hk => by omega)) | (with_reducible refine Keeps.trans ?_ HK2.out) | (with_reducible refine same_then ?_ HK2.out (fun k hk => by omega)) | (with_reducible refine Keeps.trans ?_ HK1.out) | (with_reducible refine same_then ?_ HK1.out (fun k hk => by omega))))
set_option maxHeartbeats 2000000 in
set_option maxRecDepth 100000 in
theorem refw_lo (s : St) (op a b imm : Int) (c0 : op < 48) (w : World) :
    Calls Try.prog 15 #[.agg (stA s), .agg #[.int .u8 op, .int .u8 a, .int .u8 b, .int .i32 imm]] w fun e w' => e = .returned (.tuple #[.agg (acA ac0), .agg (flA fl0)]) ∧ Same w w' := by
  go_enter Try.func15, Try.ntmps15
  go_wp2_with fail
  refine post_row2 rfl Try.underlying29 rfl infoA Try.underlying31 rfl infoF rfl rfl rfl (by go_simp; rfl) (by go_simp; rfl) rfl rfl ⟨rfl, ?_⟩
  (repeat (first | with_reducible exact Keeps.refl _ _ | (with_reducible refine Keeps.drew ?_) | (with_reducible refine Keeps.alloc ?_ _) | (with_reducible refine Keeps.setRow ?_ (fun h => absurd h (by omega)) _) | (with_reducible refine Keeps.setCell ?_ (fun h => absurd h (by simp only []; omega)) _) | (with_reducible refine Keeps.trans ?_ HK8.out) | (with_reducible refine same_then ?_ HK8.out (fun k hk => by omega)) | (with_reducible refine Keeps.trans ?_ HK7.out) | (with_reducible refine same_then ?_ HK7.out (fun k hk => by omega)) | (with_reducible refine Keeps.trans ?_ HK6.out) | (with_reducible refine same_then ?_ HK6.out (fun k hk => by omega)) | (with_reducible refine Keeps.trans ?_ HK5.out) | (with_reducible refine same_then ?_ HK5.out (fun k hk => by omega)) | (with_reducible refine Keeps.trans ?_ HK4.out) | (with_reducible refine same_then ?_ HK4.out (fun k hk => by omega)) | (with_reducible refine Keeps.trans ?_ HK3.out) | (with_reducible refine same_then ?_ HK3.out (fun k hk => by omega)) | (with_reducible refine Keeps.trans ?_ HK2.out) | (with_reducible refine same_then ?_ HK2.out (fun k hk => by omega)) | (with_reducible refine Keeps.trans ?_ HK1.out) | (with_reducible refine same_then ?_ HK1.out (fun k hk => by omega))))
set_option maxHeartbeats 2000000 in
set_option maxRecDepth 100000 in
theorem refw_hi (s : St) (op a b imm : Int) (c0 : 58 < op) (w : World) :
    Calls Try.prog 15 #[.agg (stA s), .agg #[.int .u8 op, .int .u8 a, .int .u8 b, .int .i32 imm]] w fun e w' => e = .returned (.tuple #[.agg (acA ac0), .agg (flA fl0)]) ∧ Same w w' := by
  have c9 : 48 ≤ op := by omega
  go_enter Try.func15, Try.ntmps15
  go_wp2_with fail
  refine post_row2 rfl Try.underlying29 rfl infoA Try.underlying31 rfl infoF rfl rfl rfl (by go_simp; rfl) (by go_simp; rfl) rfl rfl ⟨rfl, ?_⟩
  (repeat (first | with_reducible exact Keeps.refl _ _ | (with_reducible refine Keeps.drew ?_) | (with_reducible refine Keeps.alloc ?_ _) | (with_reducible refine Keeps.setRow ?_ (fun h => absurd h (by omega)) _) | (with_reducible refine Keeps.setCell ?_ (fun h => absurd h (by simp only []; omega)) _) | (with_reducible refine Keeps.trans ?_ HK8.out) | (with_reducible refine same_then ?_ HK8.out (fun k hk => by omega)) | (with_reducible refine Keeps.trans ?_ HK7.out) | (with_reducible refine same_then ?_ HK7.out (fun k hk => by omega)) | (with_reducible refine Keeps.trans ?_ HK6.out) | (with_reducible refine same_then ?_ HK6.out (fun k hk => by omega)) | (with_reducible refine Keeps.trans ?_ HK5.out) | (with_reducible refine same_then ?_ HK5.out (fun k hk => by omega)) | (with_reducible refine Keeps.trans ?_ HK4.out) | (with_reducible refine same_then ?_ HK4.out (fun k hk => by omega)) | (with_reducible refine Keeps.trans ?_ HK3.out) | (with_reducible refine same_then ?_ HK3.out (fun k hk => by omega)) | (with_reducible refine Keeps.trans ?_ HK2.out) | (with_reducible refine same_then ?_ HK2.out (fun k hk => by omega)) | (with_reducible refine Keeps.trans ?_ HK1.out) | (with_reducible refine same_then ?_ HK1.out (fun k hk => by omega))))
set_option maxHeartbeats 2000000 in
set_option maxRecDepth 100000 in
theorem refw_may (s : St) (op a b imm : Int) (hi : (⟨op, a, b, imm⟩ : In).Ok) (hm : mayB ⟨op, a, b, imm⟩ false = false) (c0 : 48 ≤ op) (c1 : op ≤ 58) (w : World) :
    Calls Try.prog 15 #[.agg (stA s), .agg #[.int .u8 op, .int .u8 a, .int .u8 b, .int .i32 imm]] w fun e w' => e = .returned (.tuple #[.agg (acA ac0), .agg (flA fl0)]) ∧ Same w w' := by
  have HM : Hid (∀ w, _) := hidE (fun w => may2_any _ false hi w)
  rw [hm] at HM
  simp only [inA] at HM
  clear hm hi
  go_enter Try.func15, Try.ntmps15
  go_wp2_with fail
  refine (HM.out _).mono ?_
  rintro e w1 ⟨rfl, hk⟩
  (obtain ⟨hc1, hf1, hr1, -, -, -⟩ := same_facts hk); have lt_w1_0 : w.heap.size < w1.heap.size := (by have hh := (hk).size; (try simp at hh); omega); have lt_w1_1 : w.heap.size + 1 < w1.heap.size := (by have hh := (hk).size; (try simp at hh); omega); have lt_w1_2 : w.heap.size + 1 + 1 < w1.heap.size := (by have hh := (hk).size; (try simp at hh); omega); have lt_w1_3 : w.heap.size + 1 + 1 + 1 < w1.heap.size := (by have hh := (hk).size; (try simp at hh); omega); have lt1_w1_0 : w.heap.size < w1.heap.size + 1 := (by omega); have lt2_w1_0 : w.heap.size < w1.heap.size + 1 + 1 := (by omega); have lt1_w1_1 : w.heap.size + 1 < w1.heap.size + 1 := (by omega); have lt2_w1_1 : w.heap.size + 1 < w1.heap.size + 1 + 1 := (by omega); have lt1_w1_2 : w.heap.size + 1 + 1 < w1.heap.size + 1 := (by omega); have lt2_w1_2 : w.heap.size + 1 + 1 < w1.heap.size + 1 + 1 := (by omega); have lt1_w1_3 : w.heap.size + 1 + 1 + 1 < w1.heap.size + 1 := (by omega); have lt2_w1_3 : w.heap.size + 1 + 1 + 1 < w1.heap.size + 1 + 1 := (by omega); have rw_w1_0 := (hr1 (w.heap.size) (by (try simp); (try omega))).trans (show rowAt _ (w.heap.size) = _ by go_simp; rfl); have rw_w1_1 := (hr1 (w.heap.size + 1) (by (try simp); (try omega))).trans (show rowAt _ (w.heap.size + 1) = _ by go_simp; rfl); have rw_w1_2 := (hr1 (w.heap.size + 1 + 1) (by (try simp); (try omega))).trans (show rowAt _ (w.heap.size + 1 + 1) = _ by go_simp; rfl); have rw_w1_3 := (hr1 (w.heap.size + 1 + 1 + 1) (by (try simp); (try omega))).trans (show rowAt _ (w.heap.size + 1 + 1 + 1) = _ by go_simp; rfl); have HK1 := hidE hk; clear hk
  go_wp2
  refine post_row2 rfl Try.underlying29 rfl infoA Try.underlying31 rfl infoF rfl rfl rfl (by go_simp; rfl) (by go_simp; rfl) rfl rfl ⟨rfl, ?_⟩
  (repeat (first | with_reducible exact Keeps.refl _ _ | (with_reducible refine Keeps.drew ?_) | (with_reducible refine Keeps.alloc ?_ _) | (with_reducible refine Keeps.setRow ?_ (fun h => absurd h (by omega)) _) | (with_reducible refine Keeps.setCell ?_ (fun h => absurd h (by simp only []; omega)) _) | (with_reducible refine Keeps.trans ?_ HK8.out) | (with_reducible refine same_then ?_ HK8.out (fun k hk => by omega)) | (with_reducible refine Keeps.trans ?_ HK7.out) | (with_reducible refine same_then ?_ HK7.out (fun k hk => by omega)) | (with_reducible refine Keeps.trans ?_ HK6.out) | (with_reducible refine same_then ?_ HK6.out (fun k hk => by omega)) | (with_reducible refine Keeps.trans ?_ HK5.out) | (with_reducible refine same_then ?_ HK5.out (fun k hk => by omega)) | (with_reducible refine Keeps.trans ?_ HK4.out) | (with_reducible refine same_then ?_ HK4.out (fun k hk => by omega)) | (with_reducible refine Keeps.trans ?_ HK3.out) | (with_reducible refine same_then ?_ HK3.out (fun k hk => by omega)) | (with_reducible refine Keeps.trans ?_ HK2.out) | (with_reducible refine same_then ?_ HK2.out (fun k hk => by omega)) | (with_reducible refine Keeps.trans ?_ HK1.out) | (with_reducible refine same_then ?_ HK1.out (fun k hk => by omega))))
theorem refw_any (s : St) (i : In) (hs : s.Ok) (hi : i.Ok) (w : World) :
    Calls Try.prog 15 #[.agg (stA s), .agg (inA i)] w fun e w' => e = .returned (.tuple #[.agg (acA (wantL s i).1), .agg (flA (wantL s i).2)]) ∧ Same w w' := by
  obtain ⟨op, a, b, imm⟩ := i
  have a0 := hi.a0
  have b0 := hi.b0
  simp only at a0 b0
  unfold wantL inA
  simp only
  by_cases c0 : op < 48
  · rw [show memB op = false by simp [memB]; omega]; exact refw_lo s op a b imm c0 w
  by_cases c1 : 58 < op
  · rw [show memB op = false by simp [memB]; omega]; exact refw_hi s op a b imm c1 w
  rw [show memB op = true by simp [memB]; omega]
  cases hm : mayB ⟨op, a, b, imm⟩ false
  · exact refw_may s op a b imm hi hm (by omega) (by omega) w
  obtain ⟨a1, b1⟩ := may_regs hm
  simp only at a1 b1
  simp only [Bool.and_self, if_true]
  rcases (show op = 48 ∨ op = 49 ∨ op = 50 ∨ op = 51 ∨ op = 52 ∨ op = 53 ∨ op = 54 ∨ op = 55 ∨ op = 56 ∨ op = 57 ∨ op = 58 by omega) with rfl | rfl | rfl | rfl | rfl | rfl | rfl | rfl | rfl | rfl | rfl
  · by_cases he : ((s.R b.toNat + imm) % 4294967296) % 4 = 0
    · exact refw_48 s a b imm hs b0 b1 a0 a1 hi hm he w
    · exact refw_48_no s a b imm hs b0 b1 a0 a1 hi hm he w
  · by_cases he : ((s.R b.toNat + imm) % 4294967296) % 4 = 0
    · exact refw_49 s a b imm hs b0 b1 a0 a1 hi hm he w
    · exact refw_49_no s a b imm hs b0 b1 a0 a1 hi hm he w
  · exact refw_50 s a b imm hs b0 b1 a0 a1 hi hm w
  · exact refw_51 s a b imm hs b0 b1 a0 a1 hi hm w
  · by_cases he : ((s.R b.toNat + imm) % 4294967296) % 2 = 0
    · exact refw_52 s a b imm hs b0 b1 a0 a1 hi hm he w
    · exact refw_52_no s a b imm hs b0 b1 a0 a1 hi hm he w
  · by_cases he : ((s.R b.toNat + imm) % 4294967296) % 2 = 0
    · exact refw_53 s a b imm hs b0 b1 a0 a1 hi hm he w
    · exact refw_53_no s a b imm hs b0 b1 a0 a1 hi hm he w
  · exact refw_54 s a b imm hs b0 b1 a0 a1 hi hm w
  · by_cases he : ((s.R b.toNat + imm) % 4294967296) % 2 = 0
    · exact refw_55 s a b imm hs b0 b1 a0 a1 hi hm he w
    · exact refw_55_no s a b imm hs b0 b1 a0 a1 hi hm he w
  · by_cases he : ((s.R 7 - 4) % 4294967296) % 4 = 0
    · exact refw_56 s a b imm hs b0 b1 a0 a1 hi hm he w
    · exact refw_56_no s a b imm hs b0 b1 a0 a1 hi hm he w
  · by_cases he : (s.R 7) % 4 = 0
    · exact refw_57 s a b imm hs b0 b1 a0 a1 hi hm he w
    · exact refw_57_no s a b imm hs b0 b1 a0 a1 hi hm he w
  · by_cases he : ((s.R b.toNat + imm) % 4294967296) % 4 = 0
    · exact refw_58 s a b imm hs b0 b1 a0 a1 hi hm he w
    · exact refw_58_no s a b imm hs b0 b1 a0 a1 hi hm he w
end Go.Proofs.Ytdbfjgmehmbefaa
