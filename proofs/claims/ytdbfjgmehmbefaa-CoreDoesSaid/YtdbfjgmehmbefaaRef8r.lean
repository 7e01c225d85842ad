/- The reference of layer 8: Do (third part). -/
import Derived.Test.YtdbfjgmehmbefaaRef8h
namespace Go.Proofs.Ytdbfjgmehmbefaa
open Go.RowKit
attribute [local go_sem ↓] x_ldS x_stS x_ldI x_stI x_ldA x_stA x_ldF x_stF
attribute [local go_sem] ne_s1 en_s1 ne_s2 en_s2 ne_s3 en_s3 ne_s4 en_s4 ne_s5 en_s5 ne_s6 en_s6 ne_s7 en_s7 ne_s8 en_s8 ne_s9 en_s9 ne_s10 en_s10 ne_s11 en_s11 lt_s2 lt_s3 lt_s4 lt_s5 lt_s6 lt_s7 lt_s8 lt_s9 lt_s10 lt_s11 rowAt_at rowAt_old rowAt_drew rowAt_drewN setRow_drew setRow_at setRow_old setCell_row setRow_setRow rowAt_setRow_eq rowAt_setRow_ne cell_setRow_eq cell_setRow_ne frozen_setRow_eq frozen_setRow_ne ones_lit oc_int oc_bool oc_str oc_ptr oc_sl oc_map oc_fn oc_nf oc_ni oc_if ld_S st_S ld_I st_I ld_A st_A ld_F st_F sa_size sa_one ac_size fl_size ac_one fl_one fl_c fl_a fg_c fg_a sa_pc sa_ps sg_pc sg_ps sa_r6 sa_r7 sg_r6 sg_r7 sa_r sg_r ss_pc ss_ps ss_r6 ss_r7 ss_r st0_eq
attribute [local go_sem] fld_of2
set_option maxHeartbeats 2000000 in
set_option maxRecDepth 100000 in
theorem rdo_j_true (s : St) (op a b imm v : Int) (hs : s.Ok) (hi : (⟨op, a, b, imm⟩ : In).Ok) (_v0 : 0 ≤ v) (_v1 : v < 4294967296) (hm : mayB ⟨op, a, b, imm⟩ false = true) (c0 : 64 ≤ op) (c1 : op ≤ 71) (hh : holdsL (op - 64) s.ps = true) (w : World) :
    Calls Try.prog 18 #[.agg (stA s), .agg #[.int .u8 op, .int .u8 a, .int .u8 b, .int .i32 imm], .int .u32 v] w fun e w' => e = .returned (.tuple #[.agg (stA (doL s ⟨op, a, b, imm⟩ v).1), .agg (flA (doL s ⟨op, a, b, imm⟩ v).2)]) ∧ Same w w' := by
  have HM : Hid (∀ w, _) := hidE (fun w => may2_any _ false hi w)
  obtain ⟨a1, b1⟩ := may_regs hm
  simp only at a1 b1
  have a0 := hi.a0
  have b0 := hi.b0
  have o0 := hi.o0
  have o1 := hi.o1
  simp only at a0 b0 o0 o1
  have h8 : b.toNat < 8 := by omega
  have h9 : a.toNat < 8 := by omega
  have p0 := hs.r0 a.toNat
  have p1 := hs.r1 a.toNat
  have r0 := hs.r0 b.toNat
  have r1 := hs.r1 b.toNat
  have s0 := hs.ps0
  have s1 := hs.ps1
  have HO := hidE (fun w => of2_any op false (by omega) (by omega) w)
  rw [of2_form op false (by omega) (by omega)] at HO
  have hnx : (s.pc + (formL op false).n) % 4294967296 = nextL s ⟨op, a, b, imm⟩ := rfl
  have nx0 : 0 ≤ nextL s ⟨op, a, b, imm⟩ := Int.emod_nonneg _ (by omega)
  have nx1 : nextL s ⟨op, a, b, imm⟩ < 4294967296 := Int.emod_lt_of_pos _ (by omega)
  obtain ⟨f0, f6⟩ : 0 ≤ (formL op false).n ∧ (formL op false).n ≤ 6 := form_n op
  have HP : Hid (doL s ⟨op, a, b, imm⟩ v = ((s.setPc (nextL s ⟨op, a, b, imm⟩)).setPc ((nextL s ⟨op, a, b, imm⟩ + imm) % 4294967296), fl0)) := hidE (by
    rw [doL_jump s _ v hm c0 (by simp only; omega)]
    unfold jumpL
    simp only
    rw [if_neg (by omega), if_neg (by omega), if_neg (by omega), if_pos (by simp [hh])]
    rfl)
  have e16 : (op == 16) = false := by simp; omega
  have e32 : (op == 32) = false := by simp; omega
  have e33 : (op == 33) = false := by simp; omega
  have e72 : (op == 72) = false := by simp; omega
  have e73 : (op == 73) = false := by simp; omega
  have e74 : (op == 74) = false := by simp; omega
  have e80 : (op == 80) = false := by simp; omega
  have HH := hidE (fun w => r1_Holds (op - 64) s.ps (by omega) (by omega) s0 s1 w)
  rw [hh] at HH
  clear hh
  rw [hm] at HM
  simp only [inA] at HM
  generalize nextL s ⟨op, a, b, imm⟩ = N at *
  generalize (formL op false).n = F at *
  generalize decide ((formL op false).a = 1) = fa at *
  generalize decide ((formL op false).b = 1) = fb at *
  generalize (formL op false).m = fm at *
  generalize decide ((formL op false).s = 1) = fs at *
  have HNX := hidE hnx
  clear hm hi hnx
  go_enter Try.func18, Try.ntmps18
  go_wp2_with fail
  refine (HM.out _).mono ?_
  rintro e w1 ⟨rfl, hk⟩
  (obtain ⟨hc1, hf1, hr1, -, -, -⟩ := same_facts hk); have lt_w1_0 : w.heap.size < w1.heap.size := (by have hh := (hk).size; (try simp at hh); omega); have lt_w1_1 : w.heap.size + 1 < w1.heap.size := (by have hh := (hk).size; (try simp at hh); omega); have lt_w1_2 : w.heap.size + 1 + 1 < w1.heap.size := (by have hh := (hk).size; (try simp at hh); omega); have lt_w1_3 : w.heap.size + 1 + 1 + 1 < w1.heap.size := (by have hh := (hk).size; (try simp at hh); omega); have lt1_w1_0 : w.heap.size < w1.heap.size + 1 := (by omega); have lt2_w1_0 : w.heap.size < w1.heap.size + 1 + 1 := (by omega); have lt1_w1_1 : w.heap.size + 1 < w1.heap.size + 1 := (by omega); have lt2_w1_1 : w.heap.size + 1 < w1.heap.size + 1 + 1 := (by omega); have lt1_w1_2 : w.heap.size + 1 + 1 < w1.heap.size + 1 := (by omega); have lt2_w1_2 : w.heap.size + 1 + 1 < w1.heap.size + 1 + 1 := (by omega); have lt1_w1_3 : w.heap.size + 1 + 1 + 1 < w1.heap.size + 1 := (by omega); have lt2_w1_3 : w.heap.size + 1 + 1 + 1 < w1.heap.size + 1 + 1 := (by omega); have rw_w1_0 := (hr1 (w.heap.size) (by (try simp); (try omega))).trans (show rowAt _ (w.heap.size) = _ by go_simp; rfl); have rw_w1_1 := (hr1 (w.heap.size + 1) (by (try simp); (try omega))).trans (show rowAt _ (w.heap.size + 1) = _ by go_simp; rfl); have rw_w1_2 := (hr1 (w.heap.size + 1 + 1) (by (try simp); (try omega))).trans (show rowAt _ (w.heap.size + 1 + 1) = _ by go_simp; rfl); have rw_w1_3 := (hr1 (w.heap.size + 1 + 1 + 1) (by (try simp); (try omega))).trans (show rowAt _ (w.heap.size + 1 + 1 + 1) = _ by go_simp; rfl); have HK1 := hidE hk; clear hk
  go_wp2_with fail
  refine wp_region_ra [0, 1, 2, 3, 4, 5, 6, 7, 8] [] 0 (Same _) (by kernel_rfl) (by kernel_rfl) (fun u u' h k => Keeps.trans h k) (Keeps.refl _ _).drew ?_
  simp only [opsOf, List.filterMap_cons, List.filterMap_nil, List.getElem?_cons_zero, List.getElem?_cons_succ]
  repeat (refine seqV_run (v := ?_) rfl (fun u hu => ?_) ?_; rotate_left; (focus (obtain ⟨hc, hf, hr, hl, hn, hm⟩ := same_facts hu; clear hu; go_simp; first | done | with_reducible rfl)); (try simp only [Act.put, List.setIfInBounds_toArray, List.set_cons_zero, List.set_cons_succ]))
  refine seqV_call (f := 43) (args := #[.int .u8 op, .bool false]) (v := .agg #[.int .i64 F, .bool fa, .bool fb, .int .i64 fm, .bool fs]) rfl (fun u hu => ?_) (fun u _ => HO.out u) ?_
  · (obtain ⟨hc, hf, hr, hl, hn, hm⟩ := same_facts hu; clear hu; go_simp)
  simp only [Act.put, List.setIfInBounds_toArray, List.set_cons_zero, List.set_cons_succ]
  repeat (refine seqV_run (v := ?_) rfl (fun u hu => ?_) ?_; rotate_left; (focus (obtain ⟨hc, hf, hr, hl, hn, hm⟩ := same_facts hu; clear hu; go_simp; first | done | with_reducible rfl)); (try simp only [Act.put, List.setIfInBounds_toArray, List.set_cons_zero, List.set_cons_succ]))
  refine seqV_nil ?_
  refine tailR_zero fun u1 hu _ => ?_
  (obtain ⟨hc2, hf2, hr2, -, -, -⟩ := same_facts hu); have lt_u1_0 : w.heap.size < u1.heap.size := (by have hh := (hu).size; (try simp at hh); omega); have lt_u1_1 : w.heap.size + 1 < u1.heap.size := (by have hh := (hu).size; (try simp at hh); omega); have lt_u1_2 : w.heap.size + 1 + 1 < u1.heap.size := (by have hh := (hu).size; (try simp at hh); omega); have lt_u1_3 : w.heap.size + 1 + 1 + 1 < u1.heap.size := (by have hh := (hu).size; (try simp at hh); omega); have lt1_u1_0 : w.heap.size < u1.heap.size + 1 := (by omega); have lt2_u1_0 : w.heap.size < u1.heap.size + 1 + 1 := (by omega); have lt1_u1_1 : w.heap.size + 1 < u1.heap.size + 1 := (by omega); have lt2_u1_1 : w.heap.size + 1 < u1.heap.size + 1 + 1 := (by omega); have lt1_u1_2 : w.heap.size + 1 + 1 < u1.heap.size + 1 := (by omega); have lt2_u1_2 : w.heap.size + 1 + 1 < u1.heap.size + 1 + 1 := (by omega); have lt1_u1_3 : w.heap.size + 1 + 1 + 1 < u1.heap.size + 1 := (by omega); have lt2_u1_3 : w.heap.size + 1 + 1 + 1 < u1.heap.size + 1 + 1 := (by omega); have rw_u1_0 := (hr2 (w.heap.size) (by (try simp); (try omega))).trans (show rowAt _ (w.heap.size) = _ by go_simp; rfl); have rw_u1_1 := (hr2 (w.heap.size + 1) (by (try simp); (try omega))).trans (show rowAt _ (w.heap.size + 1) = _ by go_simp; rfl); have rw_u1_2 := (hr2 (w.heap.size + 1 + 1) (by (try simp); (try omega))).trans (show rowAt _ (w.heap.size + 1 + 1) = _ by go_simp; rfl); have rw_u1_3 := (hr2 (w.heap.size + 1 + 1 + 1) (by (try simp); (try omega))).trans (show rowAt _ (w.heap.size + 1 + 1 + 1) = _ by go_simp; rfl); have HK2 := hidE hu; clear hu
  have rw_u1_0 := (hr2 (w1.heap.size) (by (try simp); (try omega))).trans (show rowAt _ (w1.heap.size) = _ by go_simp; rfl)
  have lt_u1_0 : w1.heap.size < u1.heap.size := (by have hh := (HK2.out).size; (try simp at hh); omega); have lt1_u1_0 : w1.heap.size < u1.heap.size + 1 := (by omega); have lt2_u1_0 : w1.heap.size < u1.heap.size + 1 + 1 := (by omega)
  have nn_w1_0_0 : w.heap.size ≠ w1.heap.size := (by omega); have mm_w1_0_0 : w1.heap.size ≠ w.heap.size := (by omega); have nn_w1_0_1 : w.heap.size + 1 ≠ w1.heap.size := (by omega); have mm_w1_0_1 : w1.heap.size ≠ w.heap.size + 1 := (by omega); have nn_w1_0_2 : w.heap.size + 1 + 1 ≠ w1.heap.size := (by omega); have mm_w1_0_2 : w1.heap.size ≠ w.heap.size + 1 + 1 := (by omega); have nn_w1_0_3 : w.heap.size + 1 + 1 + 1 ≠ w1.heap.size := (by omega); have mm_w1_0_3 : w1.heap.size ≠ w.heap.size + 1 + 1 + 1 := (by omega)
  simp only [IntKind.wrap_u32', Int.add_emod_emod, HNX.out]
  go_wp2_with fail
  refine wp_region_ra [0, 1, 2, 3, 4, 5, 6, 7, 8, 9, 10, 11] [] 0 (Same _) (by kernel_rfl) (by kernel_rfl) (fun u u' h k => Keeps.trans h k) (Keeps.refl _ _).drew ?_
  simp only [opsOf, List.filterMap_cons, List.filterMap_nil, List.getElem?_cons_zero, List.getElem?_cons_succ]
  repeat (refine seqV_run (v := ?_) rfl (fun u hu => ?_) ?_; rotate_left; (focus (obtain ⟨hc, hf, hr, hl, hn, hm⟩ := same_facts hu; clear hu; go_simp; first | done | with_reducible rfl)); (try simp only [Act.put, List.setIfInBounds_toArray, List.set_cons_zero, List.set_cons_succ]))
  refine seqV_nil ?_
  refine tailR_zero fun u2 hu _ => ?_
  (obtain ⟨hc3, hf3, hr3, -, -, -⟩ := same_facts hu); have lt_u2_0 : w.heap.size < u2.heap.size := (by have hh := (hu).size; (try simp at hh); omega); have lt_u2_1 : w.heap.size + 1 < u2.heap.size := (by have hh := (hu).size; (try simp at hh); omega); have lt_u2_2 : w.heap.size + 1 + 1 < u2.heap.size := (by have hh := (hu).size; (try simp at hh); omega); have lt_u2_3 : w.heap.size + 1 + 1 + 1 < u2.heap.size := (by have hh := (hu).size; (try simp at hh); omega); have lt1_u2_0 : w.heap.size < u2.heap.size + 1 := (by omega); have lt2_u2_0 : w.heap.size < u2.heap.size + 1 + 1 := (by omega); have lt1_u2_1 : w.heap.size + 1 < u2.heap.size + 1 := (by omega); have lt2_u2_1 : w.heap.size + 1 < u2.heap.size + 1 + 1 := (by omega); have lt1_u2_2 : w.heap.size + 1 + 1 < u2.heap.size + 1 := (by omega); have lt2_u2_2 : w.heap.size + 1 + 1 < u2.heap.size + 1 + 1 := (by omega); have lt1_u2_3 : w.heap.size + 1 + 1 + 1 < u2.heap.size + 1 := (by omega); have lt2_u2_3 : w.heap.size + 1 + 1 + 1 < u2.heap.size + 1 + 1 := (by omega); have rw_u2_0 := (hr3 (w.heap.size) (by (try simp); (try omega))).trans (show rowAt _ (w.heap.size) = _ by go_simp; rfl); have rw_u2_1 := (hr3 (w.heap.size + 1) (by (try simp); (try omega))).trans (show rowAt _ (w.heap.size + 1) = _ by go_simp; rfl); have rw_u2_2 := (hr3 (w.heap.size + 1 + 1) (by (try simp); (try omega))).trans (show rowAt _ (w.heap.size + 1 + 1) = _ by go_simp; rfl); have rw_u2_3 := (hr3 (w.heap.size + 1 + 1 + 1) (by (try simp); (try omega))).trans (show rowAt _ (w.heap.size + 1 + 1 + 1) = _ by go_simp; rfl); have HK3 := hidE hu; clear hu
  have rw_u2_0 := (hr3 (w1.heap.size) (by (try simp); (try omega))).trans (show rowAt _ (w1.heap.size) = _ by go_simp; rfl)
  have lt_u2_0 : w1.heap.size < u2.heap.size := (by have hh := (HK3.out).size; (try simp at hh); omega); have lt1_u2_0 : w1.heap.size < u2.heap.size + 1 := (by omega); have lt2_u2_0 : w1.heap.size < u2.heap.size + 1 + 1 := (by omega)
  go_wp2_with fail
  refine (HH.out _).mono ?_
  rintro e w4 ⟨rfl, hk⟩
  (obtain ⟨hc4, hf4, hr4, -, -, -⟩ := same_facts hk); have lt_w4_0 : w.heap.size < w4.heap.size := (by have hh := (hk).size; (try simp at hh); omega); have lt_w4_1 : w.heap.size + 1 < w4.heap.size := (by have hh := (hk).size; (try simp at hh); omega); have lt_w4_2 : w.heap.size + 1 + 1 < w4.heap.size := (by have hh := (hk).size; (try simp at hh); omega); have lt_w4_3 : w.heap.size + 1 + 1 + 1 < w4.heap.size := (by have hh := (hk).size; (try simp at hh); omega); have lt1_w4_0 : w.heap.size < w4.heap.size + 1 := (by omega); have lt2_w4_0 : w.heap.size < w4.heap.size + 1 + 1 := (by omega); have lt1_w4_1 : w.heap.size + 1 < w4.heap.size + 1 := (by omega); have lt2_w4_1 : w.heap.size + 1 < w4.heap.size + 1 + 1 := (by omega); have lt1_w4_2 : w.heap.size + 1 + 1 < w4.heap.size + 1 := (by omega); have lt2_w4_2 : w.heap.size + 1 + 1 < w4.heap.size + 1 + 1 := (by omega); have lt1_w4_3 : w.heap.size + 1 + 1 + 1 < w4.heap.size + 1 := (by omega); have lt2_w4_3 : w.heap.size + 1 + 1 + 1 < w4.heap.size + 1 + 1 := (by omega); have rw_w4_0 := (hr4 (w.heap.size) (by (try simp); (try omega))).trans (show rowAt _ (w.heap.size) = _ by go_simp; rfl); have rw_w4_1 := (hr4 (w.heap.size + 1) (by (try simp); (try omega))).trans (show rowAt _ (w.heap.size + 1) = _ by go_simp; rfl); have rw_w4_2 := (hr4 (w.heap.size + 1 + 1) (by (try simp); (try omega))).trans (show rowAt _ (w.heap.size + 1 + 1) = _ by go_simp; rfl); have rw_w4_3 := (hr4 (w.heap.size + 1 + 1 + 1) (by (try simp); (try omega))).trans (show rowAt _ (w.heap.size + 1 + 1 + 1) = _ by go_simp; rfl); have HK4 := hidE hk; clear hk
  have rw_w4_0 := (hr4 (w1.heap.size) (by (try simp); (try omega))).trans (show rowAt _ (w1.heap.size) = _ by go_simp; rfl)
  have lt_w4_0 : w1.heap.size < w4.heap.size := (by have hh := (HK4.out).size; (try simp at hh); omega); have lt1_w4_0 : w1.heap.size < w4.heap.size + 1 := (by omega); have lt2_w4_0 : w1.heap.size < w4.heap.size + 1 + 1 := (by omega)
  go_wp2
  refine post_row2 rfl Try.underlying25 rfl infoS Try.underlying31 rfl infoF rfl rfl rfl (by go_simp; rfl) (by go_simp; rfl) (sa_size _) rfl ⟨by rw [HP.out]; first | done | rfl, ?_⟩
  (repeat (first | with_reducible exact Keeps.refl _ _ | (with_reducible refine Keeps.drew ?_) | (with_reducible refine Keeps.alloc ?_ _) | (with_reducible refine Keeps.setRow ?_ (fun h => absurd h (by omega)) _) | (with_reducible refine Keeps.setCell ?_ (fun h => absurd h (by simp only []; omega)) _) | (with_reducible refine Keeps.trans ?_ HK8.out) | (with_reducible refine same_then ?_ HK8.out (fun k hk => by omega)) | (with_reducible refine Keeps.trans ?_ HK7.out) | (with_reducible refine same_then ?_ HK7.out (fun k hk => by omega)) | (with_reducible refine Keeps.trans ?_ HK6.out) | (with_reducible refine same_then ?_ HK6.out (fun k hk => by omega)) | (with_reducible refine Keeps.trans ?_ HK5.out) | (with_reducible refine same_then ?_ HK5.out (fun k hk => by omega)) | (with_reducible refine Keeps.trans ?_ HK4.out) | (with_reducible refine same_then ?_ HK4.out (fun k hk => by omega)) | (with_reducible refine Keeps.trans ?_ HK3.out) | (with_reducible refine same_then ?_ HK3.out (fun k hk => by omega)) | (with_reducible refine Keeps.trans ?_ HK2.out) | (with_reducible refine same_then ?_ HK2.out (fun k hk => by omega)) | (with_reducible refine Keeps.trans ?_ HK1.out) | (with_reducible refine same_then ?_ HK1.out (fun k hk => by omega))))
set_option maxHeartbeats 2000000 in
set_option maxRecDepth 100000 in
theorem rdo_j_false (s : St) (op a b imm v : Int) (hs : s.Ok) (hi : (⟨op, a, b, imm⟩ : In).Ok) (_v0 : 0 ≤ v) (_v1 : v < 4294967296) (hm : mayB ⟨op, a, b, imm⟩ false = true) (c0 : 64 ≤ op) (c1 : op ≤ 71) (hh : holdsL (op - 64) s.ps = false) (w : World) :
    Calls Try.prog 18 #[.agg (stA s), .agg #[.int .u8 op, .int .u8 a, .int .u8 b, .int .i32 imm], .int .u32 v] w fun e w' => e = .returned (.tuple #[.agg (stA (doL s ⟨op, a, b, imm⟩ v).1), .agg (flA (doL s ⟨op, a, b, imm⟩ v).2)]) ∧ Same w w' := by
  have HM : Hid (∀ w, _) := hidE (fun w => may2_any _ false hi w)
  obtain ⟨a1, b1⟩ := may_regs hm
  simp only at a1 b1
  have a0 := hi.a0
  have b0 := hi.b0
  have o0 := hi.o0
  have o1 := hi.o1
  simp only at a0 b0 o0 o1
  have h8 : b.toNat < 8 := by omega
  have h9 : a.toNat < 8 := by omega
  have p0 := hs.r0 a.toNat
  have p1 := hs.r1 a.toNat
  have r0 := hs.r0 b.toNat
  have r1 := hs.r1 b.toNat
  have s0 := hs.ps0
  have s1 := hs.ps1
  have HO := hidE (fun w => of2_any op false (by omega) (by omega) w)
  rw [of2_form op false (by omega) (by omega)] at HO
  have hnx : (s.pc + (formL op false).n) % 4294967296 = nextL s ⟨op, a, b, imm⟩ := rfl
  have nx0 : 0 ≤ nextL s ⟨op, a, b, imm⟩ := Int.emod_nonneg _ (by omega)
  have nx1 : nextL s ⟨op, a, b, imm⟩ < 4294967296 := Int.emod_lt_of_pos _ (by omega)
  obtain ⟨f0, f6⟩ : 0 ≤ (formL op false).n ∧ (formL op false).n ≤ 6 := form_n op
  have HP : Hid (doL s ⟨op, a, b, imm⟩ v = (s.setPc (nextL s ⟨op, a, b, imm⟩), fl0)) := hidE (by
    rw [doL_jump s _ v hm c0 (by simp only; omega)]
    unfold jumpL
    simp only
    rw [if_neg (by omega), if_neg (by omega), if_neg (by omega), if_neg (by simp [hh])])
  have e16 : (op == 16) = false := by simp; omega
  have e32 : (op == 32) = false := by simp; omega
  have e33 : (op == 33) = false := by simp; omega
  have e72 : (op == 72) = false := by simp; omega
  have e73 : (op == 73) = false := by simp; omega
  have e74 : (op == 74) = false := by simp; omega
  have e80 : (op == 80) = false := by simp; omega
  have HH := hidE (fun w => r1_Holds (op - 64) s.ps (by omega) (by omega) s0 s1 w)
  rw [hh] at HH
  clear hh
  rw [hm] at HM
  simp only [inA] at HM
  generalize nextL s ⟨op, a, b, imm⟩ = N at *
  generalize (formL op false).n = F at *
  generalize decide ((formL op false).a = 1) = fa at *
  generalize decide ((formL op false).b = 1) = fb at *
  generalize (formL op false).m = fm at *
  generalize decide ((formL op false).s = 1) = fs at *
  have HNX := hidE hnx
  clear hm hi hnx
  go_enter Try.func18, Try.ntmps18
  go_wp2_with fail
  refine (HM.out _).mono ?_
  rintro e w1 ⟨rfl, hk⟩
  (obtain ⟨hc1, hf1, hr1, -, -, -⟩ := same_facts hk); have lt_w1_0 : w.heap.size < w1.heap.size := (by have hh := (hk).size; (try simp at hh); omega); have lt_w1_1 : w.heap.size + 1 < w1.heap.size := (by have hh := (hk).size; (try simp at hh); omega); have lt_w1_2 : w.heap.size + 1 + 1 < w1.heap.size := (by have hh := (hk).size; (try simp at hh); omega); have lt_w1_3 : w.heap.size + 1 + 1 + 1 < w1.heap.size := (by have hh := (hk).size; (try simp at hh); omega); have lt1_w1_0 : w.heap.size < w1.heap.size + 1 := (by omega); have lt2_w1_0 : w.heap.size < w1.heap.size + 1 + 1 := (by omega); have lt1_w1_1 : w.heap.size + 1 < w1.heap.size + 1 := (by omega); have lt2_w1_1 : w.heap.size + 1 < w1.heap.size + 1 + 1 := (by omega); have lt1_w1_2 : w.heap.size + 1 + 1 < w1.heap.size + 1 := (by omega); have lt2_w1_2 : w.heap.size + 1 + 1 < w1.heap.size + 1 + 1 := (by omega); have lt1_w1_3 : w.heap.size + 1 + 1 + 1 < w1.heap.size + 1 := (by omega); have lt2_w1_3 : w.heap.size + 1 + 1 + 1 < w1.heap.size + 1 + 1 := (by omega); have rw_w1_0 := (hr1 (w.heap.size) (by (try simp); (try omega))).trans (show rowAt _ (w.heap.size) = _ by go_simp; rfl); have rw_w1_1 := (hr1 (w.heap.size + 1) (by (try simp); (try omega))).trans (show rowAt _ (w.heap.size + 1) = _ by go_simp; rfl); have rw_w1_2 := (hr1 (w.heap.size + 1 + 1) (by (try simp); (try omega))).trans (show rowAt _ (w.heap.size + 1 + 1) = _ by go_simp; rfl); have rw_w1_3 := (hr1 (w.heap.size + 1 + 1 + 1) (by (try simp); (try omega))).trans (show rowAt _ (w.heap.size + 1 + 1 + 1) = _ by go_simp; rfl); have HK1 := hidE hk; clear hk
  go_wp2_with fail
  refine wp_region_ra [0, 1, 2, 3, 4, 5, 6, 7, 8] [] 0 (Same _) (by kernel_rfl) (by kernel_rfl) (fun u u' h k => Keeps.trans h k) (Keeps.refl _ _).drew ?_
  simp only [opsOf, List.filterMap_cons, List.filterMap_nil, List.getElem?_cons_zero, List.getElem?_cons_succ]
  repeat (refine seqV_run (v := ?_) rfl (fun u hu => ?_) ?_; rotate_left; (focus (obtain ⟨hc, hf, hr, hl, hn, hm⟩ := same_facts hu; clear hu; go_simp; first | done | with_reducible rfl)); (try simp only [Act.put, List.setIfInBounds_toArray, List.set_cons_zero, List.set_cons_succ]))
  refine seqV_call (f := 43) (args := #[.int .u8 op, .bool false]) (v := .agg #[.int .i64 F, .bool fa, .bool fb, .int .i64 fm, .bool fs]) rfl (fun u hu => ?_) (fun u _ => HO.out u) ?_
  · (obtain ⟨hc, hf, hr, hl, hn, hm⟩ := same_facts hu; clear hu; go_simp)
  simp only [Act.put, List.setIfInBounds_toArray, List.set_cons_zero, List.set_cons_succ]
  repeat (refine seqV_run (v := ?_) rfl (fun u hu => ?_) ?_; rotate_left; (focus (obtain ⟨hc, hf, hr, hl, hn, hm⟩ := same_facts hu; clear hu; go_simp; first | done | with_reducible rfl)); (try simp only [Act.put, List.setIfInBounds_toArray, List.set_cons_zero, List.set_cons_succ]))
  refine seqV_nil ?_
  refine tailR_zero fun u1 hu _ => ?_
  (obtain ⟨hc2, hf2, hr2, -, -, -⟩ := same_facts hu); have lt_u1_0 : w.heap.size < u1.heap.size := (by have hh := (hu).size; (try simp at hh); omega); have lt_u1_1 : w.heap.size + 1 < u1.heap.size := (by have hh := (hu).size; (try simp at hh); omega); have lt_u1_2 : w.heap.size + 1 + 1 < u1.heap.size := (by have hh := (hu).size; (try simp at hh); omega); have lt_u1_3 : w.heap.size + 1 + 1 + 1 < u1.heap.size := (by have hh := (hu).size; (try simp at hh); omega); have lt1_u1_0 : w.heap.size < u1.heap.size + 1 := (by omega); have lt2_u1_0 : w.heap.size < u1.heap.size + 1 + 1 := (by omega); have lt1_u1_1 : w.heap.size + 1 < u1.heap.size + 1 := (by omega); have lt2_u1_1 : w.heap.size + 1 < u1.heap.size + 1 + 1 := (by omega); have lt1_u1_2 : w.heap.size + 1 + 1 < u1.heap.size + 1 := (by omega); have lt2_u1_2 : w.heap.size + 1 + 1 < u1.heap.size + 1 + 1 := (by omega); have lt1_u1_3 : w.heap.size + 1 + 1 + 1 < u1.heap.size + 1 := (by omega); have lt2_u1_3 : w.heap.size + 1 + 1 + 1 < u1.heap.size + 1 + 1 := (by omega); have rw_u1_0 := (hr2 (w.heap.size) (by (try simp); (try omega))).trans (show rowAt _ (w.heap.size) = _ by go_simp; rfl); have rw_u1_1 := (hr2 (w.heap.size + 1) (by (try simp); (try omega))).trans (show rowAt _ (w.heap.size + 1) = _ by go_simp; rfl); have rw_u1_2 := (hr2 (w.heap.size + 1 + 1) (by (try simp); (try omega))).trans (show rowAt _ (w.heap.size + 1 + 1) = _ by go_simp; rfl); have rw_u1_3 := (hr2 (w.heap.size + 1 + 1 + 1) (by (try simp); (try omega))).trans (show rowAt _ (w.heap.size + 1 + 1 + 1) = _ by go_simp; rfl); have HK2 := hidE hu; clear hu
  have rw_u1_0 := (hr2 (w1.heap.size) (by (try simp); (try omega))).trans (show rowAt _ (w1.heap.size) = _ by go_simp; rfl)
  have lt_u1_0 : w1.heap.size < u1.heap.size := (by have hh := (HK2.out).size; (try simp at hh); omega); have lt1_u1_0 : w1.heap.size < u1.heap.size + 1 := (by omega); have lt2_u1_0 : w1.heap.size < u1.heap.size + 1 + 1 := (by omega)
  have nn_w1_0_0 : w.heap.size ≠ w1.heap.size := (by omega); have mm_w1_0_0 : w1.heap.size ≠ w.heap.size := (by omega); have nn_w1_0_1 : w.heap.size + 1 ≠ w1.heap.size := (by omega); have mm_w1_0_1 : w1.heap.size ≠ w.heap.size + 1 := (by omega); have nn_w1_0_2 : w.heap.size + 1 + 1 ≠ w1.heap.size := (by omega); have mm_w1_0_2 : w1.heap.size ≠ w.heap.size + 1 + 1 := (by omega); have nn_w1_0_3 : w.heap.size + 1 + 1 + 1 ≠ w1.heap.size := (by omega); have mm_w1_0_3 : w1.heap.size ≠ w.heap.size + 1 + 1 + 1 := (by omega)
  simp only [IntKind.wrap_u32', Int.add_emod_emod, HNX.out]
  go_wp2_with fail
  refine wp_region_ra [0, 1, 2, 3, 4, 5, 6, 7, 8, 9, 10, 11] [] 0 (Same _) (by kernel_rfl) (by kernel_rfl) (fun u u' h k => Keeps.trans h k) (Keeps.refl _ _).drew ?_
  simp only [opsOf, List.filterMap_cons, List.filterMap_nil, List.getElem?_cons_zero, List.getElem?_cons_succ]
  repeat (refine seqV_run (v := ?_) rfl (fun u hu => ?_) ?_; rotate_left; (focus (obtain ⟨hc, hf, hr, hl, hn, hm⟩ := same_facts hu; clear hu; go_simp; first | done | with_reducible rfl)); (try simp only [Act.put, List.setIfInBounds_toArray, List.set_cons_zero, List.set_cons_succ]))
  refine seqV_nil ?_
  refine tailR_zero fun u2 hu _ => ?_
  (obtain ⟨hc3, hf3, hr3, -, -, -⟩ := same_facts hu); have lt_u2_0 : w.heap.size < u2.heap.size := (by have hh := (hu).size; (try simp at hh); omega); have lt_u2_1 : w.heap.size + 1 < u2.heap.size := (by have hh := (hu).size; (try simp at hh); omega); have lt_u2_2 : w.heap.size + 1 + 1 < u2.heap.size := (by have hh := (hu).size; (try simp at hh); omega); have lt_u2_3 : w.heap.size + 1 + 1 + 1 < u2.heap.size := (by have hh := (hu).size; (try simp at hh); omega); have lt1_u2_0 : w.heap.size < u2.heap.size + 1 := (by omega); have lt2_u2_0 : w.heap.size < u2.heap.size + 1 + 1 := (by omega); have lt1_u2_1 : w.heap.size + 1 < u2.heap.size + 1 := (by omega); have lt2_u2_1 : w.heap.size + 1 < u2.heap.size + 1 + 1 := (by omega); have lt1_u2_2 : w.heap.size + 1 + 1 < u2.heap.size + 1 := (by omega); have lt2_u2_2 : w.heap.size + 1 + 1 < u2.heap.size + 1 + 1 := (by omega); have lt1_u2_3 : w.heap.size + 1 + 1 + 1 < u2.heap.size + 1 := (by omega); have lt2_u2_3 : w.heap.size + 1 + 1 + 1 < u2.heap.size + 1 + 1 := (by omega); have rw_u2_0 := (hr3 (w.heap.size) (by (try simp); (try omega))).trans (show rowAt _ (w.heap.size) = _ by go_simp; rfl); have rw_u2_1 := (hr3 (w.heap.size + 1) (by (try simp); (try omega))).trans (show rowAt _ (w.heap.size + 1) = _ by go_simp; rfl); have rw_u2_2 := (hr3 (w.heap.size + 1 + 1) (by (try simp); (try omega))).trans (show rowAt _ (w.heap.size + 1 + 1) = _ by go_simp; rfl); have rw_u2_3 := (hr3 (w.heap.size + 1 + 1 + 1) (by (try simp); (try omega))).trans (show rowAt _ (w.heap.size + 1 + 1 + 1) = _ by go_simp; rfl); have HK3 := hidE hu; clear hu
  have rw_u2_0 := (hr3 (w1.heap.size) (by (try simp); (try omega))).trans (show rowAt _ (w1.heap.size) = _ by go_simp; rfl)
  have lt_u2_0 : w1.heap.size < u2.heap.size := (by have hh := (HK3.out).size; (try simp at hh); omega); have lt1_u2_0 : w1.heap.size < u2.heap.size + 1 := (by omega); have lt2_u2_0 : w1.heap.size < u2.heap.size + 1 + 1 := (by omega)
  go_wp2_with fail
  refine (HH.out _).mono ?_
  rintro e w4 ⟨rfl, hk⟩
  (obtain ⟨hc4, hf4, hr4, -, -, -⟩ := same_facts hk); have lt_w4_0 : w.heap.size < w4.heap.size := (by have hh := (hk).size; (try simp at hh); omega); have lt_w4_1 : w.heap.size + 1 < w4.heap.size := (by have hh := (hk).size; (try simp at hh); omega); have lt_w4_2 : w.heap.size + 1 + 1 < w4.heap.size := (by have hh := (hk).size; (try simp at hh); omega); have lt_w4_3 : w.heap.size + 1 + 1 + 1 < w4.heap.size := (by have hh := (hk).size; (try simp at hh); omega); have lt1_w4_0 : w.heap.size < w4.heap.size + 1 := (by omega); have lt2_w4_0 : w.heap.size < w4.heap.size + 1 + 1 := (by omega); have lt1_w4_1 : w.heap.size + 1 < w4.heap.size + 1 := (by omega); have lt2_w4_1 : w.heap.size + 1 < w4.heap.size + 1 + 1 := (by omega); have lt1_w4_2 : w.heap.size + 1 + 1 < w4.heap.size + 1 := (by omega); have lt2_w4_2 : w.heap.size + 1 + 1 < w4.heap.size + 1 + 1 := (by omega); have lt1_w4_3 : w.heap.size + 1 + 1 + 1 < w4.heap.size + 1 := (by omega); have lt2_w4_3 : w.heap.size + 1 + 1 + 1 < w4.heap.size + 1 + 1 := (by omega); have rw_w4_0 := (hr4 (w.heap.size) (by (try simp); (try omega))).trans (show rowAt _ (w.heap.size) = _ by go_simp; rfl); have rw_w4_1 := (hr4 (w.heap.size + 1) (by (try simp); (try omega))).trans (show rowAt _ (w.heap.size + 1) = _ by go_simp; rfl); have rw_w4_2 := (hr4 (w.heap.size + 1 + 1) (by (try simp); (try omega))).trans (show rowAt _ (w.heap.size + 1 + 1) = _ by go_simp; rfl); have rw_w4_3 := (hr4 (w.heap.size + 1 + 1 + 1) (by (try simp); (try omega))).trans (show rowAt _ (w.heap.size + 1 + 1 + 1) = _ by go_simp; rfl); have HK4 := hidE hk; clear hk
  have rw_w4_0 := (hr4 (w1.heap.size) (by (try simp); (try omega))).trans (show rowAt _ (w1.heap.size) = _ by go_simp; rfl)
  have lt_w4_0 : w1.heap.size < w4.heap.size := (by have hh := (HK4.out).size; (try simp at hh); omega); have lt1_w4_0 : w1.heap.size < w4.heap.size + 1 := (by omega); have lt2_w4_0 : w1.heap.size < w4.heap.size + 1 + 1 := (by omega)
  go_wp2
  refine post_row2 rfl Try.underlying25 rfl infoS Try.underlying31 rfl infoF rfl rfl rfl (by go_simp; rfl) (by go_simp; rfl) (sa_size _) rfl ⟨by rw [HP.out]; first | done | rfl, ?_⟩
  (repeat (first | with_reducible exact Keeps.refl _ _ | (with_reducible refine Keeps.drew ?_) | (with_reducible refine Keeps.alloc ?_ _) | (with_reducible refine Keeps.setRow ?_ (fun h => absurd h (by omega)) _) | (with_reducible refine Keeps.setCell ?_ (fun h => absurd h (by simp only []; omega)) _) | (with_reducible refine Keeps.trans ?_ HK8.out) | (with_reducible refine same_then ?_ HK8.out (fun k hk => by omega)) | (with_reducible refine Keeps.trans ?_ HK7.out) | (with_reducible refine same_then ?_ HK7.out (fun k hk => by omega)) | (with_reducible refine Keeps.trans ?_ HK6.out) | (with_reducible refine same_then ?_ HK6.out (fun k hk => by omega)) | (with_reducible refine Keeps.trans ?_ HK5.out) | (with_reducible refine same_then ?_ HK5.out (fun k hk => by omega)) | (with_reducible refine Keeps.trans ?_ HK4.out) | (with_reducible refine same_then ?_ HK4.out (fun k hk => by omega)) | (with_reducible refine Keeps.trans ?_ HK3.out) | (with_reducible refine same_then ?_ HK3.out (fun k hk => by omega)) | (with_reducible refine Keeps.trans ?_ HK2.out) | (with_reducible refine same_then ?_ HK2.out (fun k hk => by omega)) | (with_reducible refine Keeps.trans ?_ HK1.out) | (with_reducible refine same_then ?_ HK1.out (fun k hk => by omega))))
set_option maxHeartbeats 2000000 in
set_option maxRecDepth 100000 in
theorem rdo_72 (s : St) (a b imm v : Int) (hs : s.Ok) (hi : (⟨72, a, b, imm⟩ : In).Ok) (_v0 : 0 ≤ v) (_v1 : v < 4294967296) (hm : mayB ⟨72, a, b, imm⟩ false = true)  (w : World) :
    Calls Try.prog 18 #[.agg (stA s), .agg #[.int .u8 72, .int .u8 a, .int .u8 b, .int .i32 imm], .int .u32 v] w fun e w' => e = .returned (.tuple #[.agg (stA (doL s ⟨72, a, b, imm⟩ v).1), .agg (flA (doL s ⟨72, a, b, imm⟩ v).2)]) ∧ Same w w' := by
  have HM : Hid (∀ w, _) := hidE (fun w => may2_any _ false hi w)
  obtain ⟨a1, b1⟩ := may_regs hm
  simp only at a1 b1
  have a0 := hi.a0
  have b0 := hi.b0
  have o0 := hi.o0
  have o1 := hi.o1
  simp only at a0 b0 o0 o1
  have h8 : b.toNat < 8 := by omega
  have h9 : a.toNat < 8 := by omega
  have p0 := hs.r0 a.toNat
  have p1 := hs.r1 a.toNat
  have r0 := hs.r0 b.toNat
  have r1 := hs.r1 b.toNat
  have s0 := hs.ps0
  have s1 := hs.ps1
  have HO := hidE (fun w => of2_any 72 false (by omega) (by omega) w)
  rw [of2_form 72 false (by omega) (by omega)] at HO
  have hnx : (s.pc + (formL 72 false).n) % 4294967296 = nextL s ⟨72, a, b, imm⟩ := rfl
  have nx0 : 0 ≤ nextL s ⟨72, a, b, imm⟩ := Int.emod_nonneg _ (by omega)
  have nx1 : nextL s ⟨72, a, b, imm⟩ < 4294967296 := Int.emod_lt_of_pos _ (by omega)
  obtain ⟨f0, f6⟩ : 0 ≤ (formL 72 false).n ∧ (formL 72 false).n ≤ 6 := form_n 72
  have HP : Hid (doL s ⟨72, a, b, imm⟩ v = ((((s.setPc (nextL s ⟨72, a, b, imm⟩)).setPc ((nextL s ⟨72, a, b, imm⟩ + imm) % 4294967296)).setR 6 (nextL s ⟨72, a, b, imm⟩)), fl0)) := hidE (by
    rw [doL_jump s _ v hm (by simp) (by simp)]; rfl)
  rw [hm] at HM
  simp only [inA] at HM
  generalize nextL s ⟨72, a, b, imm⟩ = N at *
  generalize (formL 72 false).n = F at *
  generalize decide ((formL 72 false).a = 1) = fa at *
  generalize decide ((formL 72 false).b = 1) = fb at *
  generalize (formL 72 false).m = fm at *
  generalize decide ((formL 72 false).s = 1) = fs at *
  have HNX := hidE hnx
  clear hm hi hnx
  go_enter Try.func18, Try.ntmps18
  go_wp2_with fail
  refine (HM.out _).mono ?_
  rintro e w1 ⟨rfl, hk⟩
  (obtain ⟨hc1, hf1, hr1, -, -, -⟩ := same_facts hk); have lt_w1_0 : w.heap.size < w1.heap.size := (by have hh := (hk).size; (try simp at hh); omega); have lt_w1_1 : w.heap.size + 1 < w1.heap.size := (by have hh := (hk).size; (try simp at hh); omega); have lt_w1_2 : w.heap.size + 1 + 1 < w1.heap.size := (by have hh := (hk).size; (try simp at hh); omega); have lt_w1_3 : w.heap.size + 1 + 1 + 1 < w1.heap.size := (by have hh := (hk).size; (try simp at hh); omega); have lt1_w1_0 : w.heap.size < w1.heap.size + 1 := (by omega); have lt2_w1_0 : w.heap.size < w1.heap.size + 1 + 1 := (by omega); have lt1_w1_1 : w.heap.size + 1 < w1.heap.size + 1 := (by omega); have lt2_w1_1 : w.heap.size + 1 < w1.heap.size + 1 + 1 := (by omega); have lt1_w1_2 : w.heap.size + 1 + 1 < w1.heap.size + 1 := (by omega); have lt2_w1_2 : w.heap.size + 1 + 1 < w1.heap.size + 1 + 1 := (by omega); have lt1_w1_3 : w.heap.size + 1 + 1 + 1 < w1.heap.size + 1 := (by omega); have lt2_w1_3 : w.heap.size + 1 + 1 + 1 < w1.heap.size + 1 + 1 := (by omega); have rw_w1_0 := (hr1 (w.heap.size) (by (try simp); (try omega))).trans (show rowAt _ (w.heap.size) = _ by go_simp; rfl); have rw_w1_1 := (hr1 (w.heap.size + 1) (by (try simp); (try omega))).trans (show rowAt _ (w.heap.size + 1) = _ by go_simp; rfl); have rw_w1_2 := (hr1 (w.heap.size + 1 + 1) (by (try simp); (try omega))).trans (show rowAt _ (w.heap.size + 1 + 1) = _ by go_simp; rfl); have rw_w1_3 := (hr1 (w.heap.size + 1 + 1 + 1) (by (try simp); (try omega))).trans (show rowAt _ (w.heap.size + 1 + 1 + 1) = _ by go_simp; rfl); have HK1 := hidE hk; clear hk
  go_wp2_with fail
  refine wp_region_ra [0, 1, 2, 3, 4, 5, 6, 7, 8] [] 0 (Same _) (by kernel_rfl) (by kernel_rfl) (fun u u' h k => Keeps.trans h k) (Keeps.refl _ _).drew ?_
  simp only [opsOf, List.filterMap_cons, List.filterMap_nil, List.getElem?_cons_zero, List.getElem?_cons_succ]
  repeat (refine seqV_run (v := ?_) rfl (fun u hu => ?_) ?_; rotate_left; (focus (obtain ⟨hc, hf, hr, hl, hn, hm⟩ := same_facts hu; clear hu; go_simp; first | done | with_reducible rfl)); (try simp only [Act.put, List.setIfInBounds_toArray, List.set_cons_zero, List.set_cons_succ]))
  refine seqV_call (f := 43) (args := #[.int .u8 72, .bool false]) (v := .agg #[.int .i64 F, .bool fa, .bool fb, .int .i64 fm, .bool fs]) rfl (fun u hu => ?_) (fun u _ => HO.out u) ?_
  · (obtain ⟨hc, hf, hr, hl, hn, hm⟩ := same_facts hu; clear hu; go_simp)
  simp only [Act.put, List.setIfInBounds_toArray, List.set_cons_zero, List.set_cons_succ]
  repeat (refine seqV_run (v := ?_) rfl (fun u hu => ?_) ?_; rotate_left; (focus (obtain ⟨hc, hf, hr, hl, hn, hm⟩ := same_facts hu; clear hu; go_simp; first | done | with_reducible rfl)); (try simp only [Act.put, List.setIfInBounds_toArray, List.set_cons_zero, List.set_cons_succ]))
  refine seqV_nil ?_
  refine tailR_zero fun u1 hu _ => ?_
  (obtain ⟨hc2, hf2, hr2, -, -, -⟩ := same_facts hu); have lt_u1_0 : w.heap.size < u1.heap.size := (by have hh := (hu).size; (try simp at hh); omega); have lt_u1_1 : w.heap.size + 1 < u1.heap.size := (by have hh := (hu).size; (try simp at hh); omega); have lt_u1_2 : w.heap.size + 1 + 1 < u1.heap.size := (by have hh := (hu).size; (try simp at hh); omega); have lt_u1_3 : w.heap.size + 1 + 1 + 1 < u1.heap.size := (by have hh := (hu).size; (try simp at hh); omega); have lt1_u1_0 : w.heap.size < u1.heap.size + 1 := (by omega); have lt2_u1_0 : w.heap.size < u1.heap.size + 1 + 1 := (by omega); have lt1_u1_1 : w.heap.size + 1 < u1.heap.size + 1 := (by omega); have lt2_u1_1 : w.heap.size + 1 < u1.heap.size + 1 + 1 := (by omega); have lt1_u1_2 : w.heap.size + 1 + 1 < u1.heap.size + 1 := (by omega); have lt2_u1_2 : w.heap.size + 1 + 1 < u1.heap.size + 1 + 1 := (by omega); have lt1_u1_3 : w.heap.size + 1 + 1 + 1 < u1.heap.size + 1 := (by omega); have lt2_u1_3 : w.heap.size + 1 + 1 + 1 < u1.heap.size + 1 + 1 := (by omega); have rw_u1_0 := (hr2 (w.heap.size) (by (try simp); (try omega))).trans (show rowAt _ (w.heap.size) = _ by go_simp; rfl); have rw_u1_1 := (hr2 (w.heap.size + 1) (by (try simp); (try omega))).trans (show rowAt _ (w.heap.size + 1) = _ by go_simp; rfl); have rw_u1_2 := (hr2 (w.heap.size + 1 + 1) (by (try simp); (try omega))).trans (show rowAt _ (w.heap.size + 1 + 1) = _ by go_simp; rfl); have rw_u1_3 := (hr2 (w.heap.size + 1 + 1 + 1) (by (try simp); (try omega))).trans (show rowAt _ (w.heap.size + 1 + 1 + 1) = _ by go_simp; rfl); have HK2 := hidE hu; clear hu
  have rw_u1_0 := (hr2 (w1.heap.size) (by (try simp); (try omega))).trans (show rowAt _ (w1.heap.size) = _ by go_simp; rfl)
  have lt_u1_0 : w1.heap.size < u1.heap.size := (by have hh := (HK2.out).size; (try simp at hh); omega); have lt1_u1_0 : w1.heap.size < u1.heap.size + 1 := (by omega); have lt2_u1_0 : w1.heap.size < u1.heap.size + 1 + 1 := (by omega)
  have nn_w1_0_0 : w.heap.size ≠ w1.heap.size := (by omega); have mm_w1_0_0 : w1.heap.size ≠ w.heap.size := (by omega); have nn_w1_0_1 : w.heap.size + 1 ≠ w1.heap.size := (by omega); have mm_w1_0_1 : w1.heap.size ≠ w.heap.size + 1 := (by omega); have nn_w1_0_2 : w.heap.size + 1 + 1 ≠ w1.heap.size := (by omega); have mm_w1_0_2 : w1.heap.size ≠ w.heap.size + 1 + 1 := (by omega); have nn_w1_0_3 : w.heap.size + 1 + 1 + 1 ≠ w1.heap.size := (by omega); have mm_w1_0_3 : w1.heap.size ≠ w.heap.size + 1 + 1 + 1 := (by omega)
  simp only [IntKind.wrap_u32', Int.add_emod_emod, HNX.out]
  go_wp2_with fail
  refine wp_region_ra [0, 1, 2, 3, 4, 5, 6, 7, 8, 9, 10, 11] [] 0 (Same _) (by kernel_rfl) (by kernel_rfl) (fun u u' h k => Keeps.trans h k) (Keeps.refl _ _).drew ?_
  simp only [opsOf, List.filterMap_cons, List.filterMap_nil, List.getElem?_cons_zero, List.getElem?_cons_succ]
  repeat (refine seqV_run (v := ?_) rfl (fun u hu => ?_) ?_; rotate_left; (focus (obtain ⟨hc, hf, hr, hl, hn, hm⟩ := same_facts hu; clear hu; go_simp; first | done | with_reducible rfl)); (try simp only [Act.put, List.setIfInBounds_toArray, List.set_cons_zero, List.set_cons_succ]))
  refine seqV_nil ?_
  refine tailR_zero fun u2 hu _ => ?_
  (obtain ⟨hc3, hf3, hr3, -, -, -⟩ := same_facts hu); have lt_u2_0 : w.heap.size < u2.heap.size := (by have hh := (hu).size; (try simp at hh); omega); have lt_u2_1 : w.heap.size + 1 < u2.heap.size := (by have hh := (hu).size; (try simp at hh); omega); have lt_u2_2 : w.heap.size + 1 + 1 < u2.heap.size := (by have hh := (hu).size; (try simp at hh); omega); have lt_u2_3 : w.heap.size + 1 + 1 + 1 < u2.heap.size := (by have hh := (hu).size; (try simp at hh); omega); have lt1_u2_0 : w.heap.size < u2.heap.size + 1 := (by omega); have lt2_u2_0 : w.heap.size < u2.heap.size + 1 + 1 := (by omega); have lt1_u2_1 : w.heap.size + 1 < u2.heap.size + 1 := (by omega); have lt2_u2_1 : w.heap.size + 1 < u2.heap.size + 1 + 1 := (by omega); have lt1_u2_2 : w.heap.size + 1 + 1 < u2.heap.size + 1 := (by omega); have lt2_u2_2 : w.heap.size + 1 + 1 < u2.heap.size + 1 + 1 := (by omega); have lt1_u2_3 : w.heap.size + 1 + 1 + 1 < u2.heap.size + 1 := (by omega); have lt2_u2_3 : w.heap.size + 1 + 1 + 1 < u2.heap.size + 1 + 1 := (by omega); have rw_u2_0 := (hr3 (w.heap.size) (by (try simp); (try omega))).trans (show rowAt _ (w.heap.size) = _ by go_simp; rfl); have rw_u2_1 := (hr3 (w.heap.size + 1) (by (try simp); (try omega))).trans (show rowAt _ (w.heap.size + 1) = _ by go_simp; rfl); have rw_u2_2 := (hr3 (w.heap.size + 1 + 1) (by (try simp); (try omega))).trans (show rowAt _ (w.heap.size + 1 + 1) = _ by go_simp; rfl); have rw_u2_3 := (hr3 (w.heap.size + 1 + 1 + 1) (by (try simp); (try omega))).trans (show rowAt _ (w.heap.size + 1 + 1 + 1) = _ by go_simp; rfl); have HK3 := hidE hu; clear hu
  have rw_u2_0 := (hr3 (w1.heap.size) (by (try simp); (try omega))).trans (show rowAt _ (w1.heap.size) = _ by go_simp; rfl)
  have lt_u2_0 : w1.heap.size < u2.heap.size := (by have hh := (HK3.out).size; (try simp at hh); omega); have lt1_u2_0 : w1.heap.size < u2.heap.size + 1 := (by omega); have lt2_u2_0 : w1.heap.size < u2.heap.size + 1 + 1 := (by omega)
  go_wp2
  refine post_row2 rfl Try.underlying25 rfl infoS Try.underlying31 rfl infoF rfl rfl rfl (by go_simp; rfl) (by go_simp; rfl) (sa_size _) rfl ⟨by rw [HP.out]; first | done | rfl, ?_⟩
  (repeat (first | with_reducible exact Keeps.refl _ _ | (with_reducible refine Keeps.drew ?_) | (with_reducible refine Keeps.alloc ?_ _) | (with_reducible refine Keeps.setRow ?_ (fun h => absurd h (by omega)) _) | (with_reducible refine Keeps.setCell ?_ (fun h => absurd h (by simp only []; omega)) _) | (with_reducible refine Keeps.trans ?_ HK8.out) | (with_reducible refine same_then ?_ HK8.out (fun k hk => by omega)) | (with_reducible refine Keeps.trans ?_ HK7.out) | (with_reducible refine same_then ?_ HK7.out (fun k hk => by omega)) | (with_reducible refine Keeps.trans ?_ HK6.out) | (with_reducible refine same_then ?_ HK6.out (fun k hk => by omega)) | (with_reducible refine Keeps.trans ?_ HK5.out) | (with_reducible refine same_then ?_ HK5.out (fun k hk => by omega)) | (with_reducible refine Keeps.trans ?_ HK4.out) | (with_reducible refine same_then ?_ HK4.out (fun k hk => by omega)) | (with_reducible refine Keeps.trans ?_ HK3.out) | (with_reducible refine same_then ?_ HK3.out (fun k hk => by omega)) | (with_reducible refine Keeps.trans ?_ HK2.out) | (with_reducible refine same_then ?_ HK2.out (fun k hk => by omega)) | (with_reducible refine Keeps.trans ?_ HK1.out) | (with_reducible refine same_then ?_ HK1.out (fun k hk => by omega))))
set_option maxHeartbeats 2000000 in
set_option maxRecDepth 100000 in
theorem rdo_73 (s : St) (a b imm v : Int) (hs : s.Ok) (hi : (⟨73, a, b, imm⟩ : In).Ok) (_v0 : 0 ≤ v) (_v1 : v < 4294967296) (hm : mayB ⟨73, a, b, imm⟩ false = true)  (w : World) :
    Calls Try.prog 18 #[.agg (stA s), .agg #[.int .u8 73, .int .u8 a, .int .u8 b, .int .i32 imm], .int .u32 v] w fun e w' => e = .returned (.tuple #[.agg (stA (doL s ⟨73, a, b, imm⟩ v).1), .agg (flA (doL s ⟨73, a, b, imm⟩ v).2)]) ∧ Same w w' := by
  have HM : Hid (∀ w, _) := hidE (fun w => may2_any _ false hi w)
  obtain ⟨a1, b1⟩ := may_regs hm
  simp only at a1 b1
  have a0 := hi.a0
  have b0 := hi.b0
  have o0 := hi.o0
  have o1 := hi.o1
  simp only at a0 b0 o0 o1
  have h8 : b.toNat < 8 := by omega
  have h9 : a.toNat < 8 := by omega
  have p0 := hs.r0 a.toNat
  have p1 := hs.r1 a.toNat
  have r0 := hs.r0 b.toNat
  have r1 := hs.r1 b.toNat
  have s0 := hs.ps0
  have s1 := hs.ps1
  have HO := hidE (fun w => of2_any 73 false (by omega) (by omega) w)
  rw [of2_form 73 false (by omega) (by omega)] at HO
  have hnx : (s.pc + (formL 73 false).n) % 4294967296 = nextL s ⟨73, a, b, imm⟩ := rfl
  have nx0 : 0 ≤ nextL s ⟨73, a, b, imm⟩ := Int.emod_nonneg _ (by omega)
  have nx1 : nextL s ⟨73, a, b, imm⟩ < 4294967296 := Int.emod_lt_of_pos _ (by omega)
  obtain ⟨f0, f6⟩ : 0 ≤ (formL 73 false).n ∧ (formL 73 false).n ≤ 6 := form_n 73
  have HP : Hid (doL s ⟨73, a, b, imm⟩ v = ((s.setPc (nextL s ⟨73, a, b, imm⟩)).setPc (s.R a.toNat), fl0)) := hidE (by
    rw [doL_jump s _ v hm (by simp) (by simp)]; rfl)
  rw [hm] at HM
  simp only [inA] at HM
  generalize nextL s ⟨73, a, b, imm⟩ = N at *
  generalize (formL 73 false).n = F at *
  generalize decide ((formL 73 false).a = 1) = fa at *
  generalize decide ((formL 73 false).b = 1) = fb at *
  generalize (formL 73 false).m = fm at *
  generalize decide ((formL 73 false).s = 1) = fs at *
  have HNX := hidE hnx
  clear hm hi hnx
  go_enter Try.func18, Try.ntmps18
  go_wp2_with fail
  refine (HM.out _).mono ?_
  rintro e w1 ⟨rfl, hk⟩
  (obtain ⟨hc1, hf1, hr1, -, -, -⟩ := same_facts hk); have lt_w1_0 : w.heap.size < w1.heap.size := (by have hh := (hk).size; (try simp at hh); omega); have lt_w1_1 : w.heap.size + 1 < w1.heap.size := (by have hh := (hk).size; (try simp at hh); omega); have lt_w1_2 : w.heap.size + 1 + 1 < w1.heap.size := (by have hh := (hk).size; (try simp at hh); omega); have lt_w1_3 : w.heap.size + 1 + 1 + 1 < w1.heap.size := (by have hh := (hk).size; (try simp at hh); omega); have lt1_w1_0 : w.heap.size < w1.heap.size + 1 := (by omega); have lt2_w1_0 : w.heap.size < w1.heap.size + 1 + 1 := (by omega); have lt1_w1_1 : w.heap.size + 1 < w1.heap.size + 1 := (by omega); have lt2_w1_1 : w.heap.size + 1 < w1.heap.size + 1 + 1 := (by omega); have lt1_w1_2 : w.heap.size + 1 + 1 < w1.heap.size + 1 := (by omega); have lt2_w1_2 : w.heap.size + 1 + 1 < w1.heap.size + 1 + 1 := (by omega); have lt1_w1_3 : w.heap.size + 1 + 1 + 1 < w1.heap.size + 1 := (by omega); have lt2_w1_3 : w.heap.size + 1 + 1 + 1 < w1.heap.size + 1 + 1 := (by omega); have rw_w1_0 := (hr1 (w.heap.size) (by (try simp); (try omega))).trans (show rowAt _ (w.heap.size) = _ by go_simp; rfl); have rw_w1_1 := (hr1 (w.heap.size + 1) (by (try simp); (try omega))).trans (show rowAt _ (w.heap.size + 1) = _ by go_simp; rfl); have rw_w1_2 := (hr1 (w.heap.size + 1 + 1) (by (try simp); (try omega))).trans (show rowAt _ (w.heap.size + 1 + 1) = _ by go_simp; rfl); have rw_w1_3 := (hr1 (w.heap.size + 1 + 1 + 1) (by (try simp); (try omega))).trans (show rowAt _ (w.heap.size + 1 + 1 + 1) = _ by go_simp; rfl); have HK1 := hidE hk; clear hk
  go_wp2_with fail
  refine wp_region_ra [0, 1, 2, 3, 4, 5, 6, 7, 8] [] 0 (Same _) (by kernel_rfl) (by kernel_rfl) (fun u u' h k => Keeps.trans h k) (Keeps.refl _ _).drew ?_
  simp only [opsOf, List.filterMap_cons, List.filterMap_nil, List.getElem?_cons_zero, List.getElem?_cons_succ]
  repeat (refine seqV_run (v := ?_) rfl (fun u hu => ?_) ?_; rotate_left; (focus (obtain ⟨hc, hf, hr, hl, hn, hm⟩ := same_facts hu; clear hu; go_simp; first | done | with_reducible rfl)); (try simp only [Act.put, List.setIfInBounds_toArray, List.set_cons_zero, List.set_cons_succ]))
  refine seqV_call (f := 43) (args := #[.int .u8 73, .bool false]) (v := .agg #[.int .i64 F, .bool fa, .bool fb, .int .i64 fm, .bool fs]) rfl (fun u hu => ?_) (fun u _ => HO.out u) ?_
  · (obtain ⟨hc, hf, hr, hl, hn, hm⟩ := same_facts hu; clear hu; go_simp)
  simp only [Act.put, List.setIfInBounds_toArray, List.set_cons_zero, List.set_cons_succ]
  repeat (refine seqV_run (v := ?_) rfl (fun u hu => ?_) ?_; rotate_left; (focus (obtain ⟨hc, hf, hr, hl, hn, hm⟩ := same_facts hu; clear hu; go_simp; first | done | with_reducible rfl)); (try simp only [Act.put, List.setIfInBounds_toArray, List.set_cons_zero, List.set_cons_succ]))
  refine seqV_nil ?_
  refine tailR_zero fun u1 hu _ => ?_
  (obtain ⟨hc2, hf2, hr2, -, -, -⟩ := same_facts hu); have lt_u1_0 : w.heap.size < u1.heap.size := (by have hh := (hu).size; (try simp at hh); omega); have lt_u1_1 : w.heap.size + 1 < u1.heap.size := (by have hh := (hu).size; (try simp at hh); omega); have lt_u1_2 : w.heap.size + 1 + 1 < u1.heap.size := (by have hh := (hu).size; (try simp at hh); omega); have lt_u1_3 : w.heap.size + 1 + 1 + 1 < u1.heap.size := (by have hh := (hu).size; (try simp at hh); omega); have lt1_u1_0 : w.heap.size < u1.heap.size + 1 := (by omega); have lt2_u1_0 : w.heap.size < u1.heap.size + 1 + 1 := (by omega); have lt1_u1_1 : w.heap.size + 1 < u1.heap.size + 1 := (by omega); have lt2_u1_1 : w.heap.size + 1 < u1.heap.size + 1 + 1 := (by omega); have lt1_u1_2 : w.heap.size + 1 + 1 < u1.heap.size + 1 := (by omega); have lt2_u1_2 : w.heap.size + 1 + 1 < u1.heap.size + 1 + 1 := (by omega); have lt1_u1_3 : w.heap.size + 1 + 1 + 1 < u1.heap.size + 1 := (by omega); have lt2_u1_3 : w.heap.size + 1 + 1 + 1 < u1.heap.size + 1 + 1 := (by omega); have rw_u1_0 := (hr2 (w.heap.size) (by (try simp); (try omega))).trans (show rowAt _ (w.heap.size) = _ by go_simp; rfl); have rw_u1_1 := (hr2 (w.heap.size + 1) (by (try simp); (try omega))).trans (show rowAt _ (w.heap.size + 1) = _ by go_simp; rfl); have rw_u1_2 := (hr2 (w.heap.size + 1 + 1) (by (try simp); (try omega))).trans (show rowAt _ (w.heap.size + 1 + 1) = _ by go_simp; rfl); have rw_u1_3 := (hr2 (w.heap.size + 1 + 1 + 1) (by (try simp); (try omega))).trans (show rowAt _ (w.heap.size + 1 + 1 + 1) = _ by go_simp; rfl); have HK2 := hidE hu; clear hu
  have rw_u1_0 := (hr2 (w1.heap.size) (by (try simp); (try omega))).trans (show rowAt _ (w1.heap.size) = _ by go_simp; rfl)
  have lt_u1_0 : w1.heap.size < u1.heap.size := (by have hh := (HK2.out).size; (try simp at hh); omega); have lt1_u1_0 : w1.heap.size < u1.heap.size + 1 := (by omega); have lt2_u1_0 : w1.heap.size < u1.heap.size + 1 + 1 := (by omega)
  have nn_w1_0_0 : w.heap.size ≠ w1.heap.size := (by omega); have mm_w1_0_0 : w1.heap.size ≠ w.heap.size := (by omega); have nn_w1_0_1 : w.heap.size + 1 ≠ w1.heap.size := (by omega); have mm_w1_0_1 : w1.heap.size ≠ w.heap.size + 1 := (by omega); have nn_w1_0_2 : w.heap.size + 1 + 1 ≠ w1.heap.size := (by omega); have mm_w1_0_2 : w1.heap.size ≠ w.heap.size + 1 + 1 := (by omega); have nn_w1_0_3 : w.heap.size + 1 + 1 + 1 ≠ w1.heap.size := (by omega); have mm_w1_0_3 : w1.heap.size ≠ w.heap.size + 1 + 1 + 1 := (by omega)
  simp only [IntKind.wrap_u32', Int.add_emod_emod, HNX.out]
  go_wp2_with fail
  refine wp_region_ra [0, 1, 2, 3, 4, 5, 6, 7, 8, 9, 10, 11] [] 0 (Same _) (by kernel_rfl) (by kernel_rfl) (fun u u' h k => Keeps.trans h k) (Keeps.refl _ _).drew ?_
  simp only [opsOf, List.filterMap_cons, List.filterMap_nil, List.getElem?_cons_zero, List.getElem?_cons_succ]
  repeat (refine seqV_run (v := ?_) rfl (fun u hu => ?_) ?_; rotate_left; (focus (obtain ⟨hc, hf, hr, hl, hn, hm⟩ := same_facts hu; clear hu; go_simp; first | done | with_reducible rfl)); (try simp only [Act.put, List.setIfInBounds_toArray, List.set_cons_zero, List.set_cons_succ]))
  refine seqV_nil ?_
  refine tailR_zero fun u2 hu _ => ?_
  (obtain ⟨hc3, hf3, hr3, -, -, -⟩ := same_facts hu); have lt_u2_0 : w.heap.size < u2.heap.size := (by have hh := (hu).size; (try simp at hh); omega); have lt_u2_1 : w.heap.size + 1 < u2.heap.size := (by have hh := (hu).size; (try simp at hh); omega); have lt_u2_2 : w.heap.size + 1 + 1 < u2.heap.size := (by have hh := (hu).size; (try simp at hh); omega); have lt_u2_3 : w.heap.size + 1 + 1 + 1 < u2.heap.size := (by have hh := (hu).size; (try simp at hh); omega); have lt1_u2_0 : w.heap.size < u2.heap.size + 1 := (by omega); have lt2_u2_0 : w.heap.size < u2.heap.size + 1 + 1 := (by omega); have lt1_u2_1 : w.heap.size + 1 < u2.heap.size + 1 := (by omega); have lt2_u2_1 : w.heap.size + 1 < u2.heap.size + 1 + 1 := (by omega); have lt1_u2_2 : w.heap.size + 1 + 1 < u2.heap.size + 1 := (by omega); have lt2_u2_2 : w.heap.size + 1 + 1 < u2.heap.size + 1 + 1 := (by omega); have lt1_u2_3 : w.heap.size + 1 + 1 + 1 < u2.heap.size + 1 := (by omega); have lt2_u2_3 : w.heap.size + 1 + 1 + 1 < u2.heap.size + 1 + 1 := (by omega); have rw_u2_0 := (hr3 (w.heap.size) (by (try simp); (try omega))).trans (show rowAt _ (w.heap.size) = _ by go_simp; rfl); have rw_u2_1 := (hr3 (w.heap.size + 1) (by (try simp); (try omega))).trans (show rowAt _ (w.heap.size + 1) = _ by go_simp; rfl); have rw_u2_2 := (hr3 (w.heap.size + 1 + 1) (by (try simp); (try omega))).trans (show rowAt _ (w.heap.size + 1 + 1) = _ by go_simp; rfl); have rw_u2_3 := (hr3 (w.heap.size + 1 + 1 + 1) (by (try simp); (try omega))).trans (show rowAt _ (w.heap.size + 1 + 1 + 1) = _ by go_simp; rfl); have HK3 := hidE hu; clear hu
  have rw_u2_0 := (hr3 (w1.heap.size) (by (try simp); (try omega))).trans (show rowAt _ (w1.heap.size) = _ by go_simp; rfl)
  have lt_u2_0 : w1.heap.size < u2.heap.size := (by have hh := (HK3.out).size; (try simp at hh); omega); have lt1_u2_0 : w1.heap.size < u2.heap.size + 1 := (by omega); have lt2_u2_0 : w1.heap.size < u2.heap.size + 1 + 1 := (by omega)
  go_wp2
  refine post_row2 rfl Try.underlying25 rfl infoS Try.underlying31 rfl infoF rfl rfl rfl (by go_simp; rfl) (by go_simp; rfl) (sa_size _) rfl ⟨by rw [HP.out]; first | done | rfl, ?_⟩
  (repeat (first | with_reducible exact Keeps.refl _ _ | (with_reducible refine Keeps.drew ?_) | (with_reducible refine Keeps.alloc ?_ _) | (with_reducible refine Keeps.setRow ?_ (fun h => absurd h (by omega)) _) | (with_reducible refine Keeps.setCell ?_ (fun h => absurd h (by simp only []; omega)) _) | (with_reducible refine Keeps.trans ?_ HK8.out) | (with_reducible refine same_then ?_ HK8.out (fun k hk => by omega)) | (with_reducible refine Keeps.trans ?_ HK7.out) | (with_reducible refine same_then ?_ HK7.out (fun k hk => by omega)) | (with_reducible refine Keeps.trans ?_ HK6.out) | (with_reducible refine same_then ?_ HK6.out (fun k hk => by omega)) | (with_reducible refine Keeps.trans ?_ HK5.out) | (with_reducible refine same_then ?_ HK5.out (fun k hk => by omega)) | (with_reducible refine Keeps.trans ?_ HK4.out) | (with_reducible refine same_then ?_ HK4.out (fun k hk => by omega)) | (with_reducible refine Keeps.trans ?_ HK3.out) | (with_reducible refine same_then ?_ HK3.out (fun k hk => by omega)) | (with_reducible refine Keeps.trans ?_ HK2.out) | (with_reducible refine same_then ?_ HK2.out (fun k hk => by omega)) | (with_reducible refine Keeps.trans ?_ HK1.out) | (with_reducible refine same_then ?_ HK1.out (fun k hk => by omega))))
set_option maxHeartbeats 2000000 in
set_option maxRecDepth 100000 in
theorem rdo_74 (s : St) (a b imm v : Int) (hs : s.Ok) (hi : (⟨74, a, b, imm⟩ : In).Ok) (_v0 : 0 ≤ v) (_v1 : v < 4294967296) (hm : mayB ⟨74, a, b, imm⟩ false = true)  (w : World) :
    Calls Try.prog 18 #[.agg (stA s), .agg #[.int .u8 74, .int .u8 a, .int .u8 b, .int .i32 imm], .int .u32 v] w fun e w' => e = .returned (.tuple #[.agg (stA (doL s ⟨74, a, b, imm⟩ v).1), .agg (flA (doL s ⟨74, a, b, imm⟩ v).2)]) ∧ Same w w' := by
  have HM : Hid (∀ w, _) := hidE (fun w => may2_any _ false hi w)
  obtain ⟨a1, b1⟩ := may_regs hm
  simp only at a1 b1
  have a0 := hi.a0
  have b0 := hi.b0
  have o0 := hi.o0
  have o1 := hi.o1
  simp only at a0 b0 o0 o1
  have h8 : b.toNat < 8 := by omega
  have h9 : a.toNat < 8 := by omega
  have p0 := hs.r0 a.toNat
  have p1 := hs.r1 a.toNat
  have r0 := hs.r0 b.toNat
  have r1 := hs.r1 b.toNat
  have s0 := hs.ps0
  have s1 := hs.ps1
  have HO := hidE (fun w => of2_any 74 false (by omega) (by omega) w)
  rw [of2_form 74 false (by omega) (by omega)] at HO
  have hnx : (s.pc + (formL 74 false).n) % 4294967296 = nextL s ⟨74, a, b, imm⟩ := rfl
  have nx0 : 0 ≤ nextL s ⟨74, a, b, imm⟩ := Int.emod_nonneg _ (by omega)
  have nx1 : nextL s ⟨74, a, b, imm⟩ < 4294967296 := Int.emod_lt_of_pos _ (by omega)
  obtain ⟨f0, f6⟩ : 0 ≤ (formL 74 false).n ∧ (formL 74 false).n ≤ 6 := form_n 74
  have HP : Hid (doL s ⟨74, a, b, imm⟩ v = (((s.setPc (nextL s ⟨74, a, b, imm⟩)).setPc (s.R a.toNat)).setR 6 (nextL s ⟨74, a, b, imm⟩), fl0)) := hidE (by
    rw [doL_jump s _ v hm (by simp) (by simp)]; rfl)
  rw [hm] at HM
  simp only [inA] at HM
  generalize nextL s ⟨74, a, b, imm⟩ = N at *
  generalize (formL 74 false).n = F at *
  generalize decide ((formL 74 false).a = 1) = fa at *
  generalize decide ((formL 74 false).b = 1) = fb at *
  generalize (formL 74 false).m = fm at *
  generalize decide ((formL 74 false).s = 1) = fs at *
  have HNX := hidE hnx
  clear hm hi hnx
  go_enter Try.func18, Try.ntmps18
  go_wp2_with fail
  refine (HM.out _).mono ?_
  rintro e w1 ⟨rfl, hk⟩
  (obtain ⟨hc1, hf1, hr1, -, -, -⟩ := same_facts hk); have lt_w1_0 : w.heap.size < w1.heap.size := (by have hh := (hk).size; (try simp at hh); omega); have lt_w1_1 : w.heap.size + 1 < w1.heap.size := (by have hh := (hk).size; (try simp at hh); omega); have lt_w1_2 : w.heap.size + 1 + 1 < w1.heap.size := (by have hh := (hk).size; (try simp at hh); omega); have lt_w1_3 : w.heap.size + 1 + 1 + 1 < w1.heap.size := (by have hh := (hk).size; (try simp at hh); omega); have lt1_w1_0 : w.heap.size < w1.heap.size + 1 := (by omega); have lt2_w1_0 : w.heap.size < w1.heap.size + 1 + 1 := (by omega); have lt1_w1_1 : w.heap.size + 1 < w1.heap.size + 1 := (by omega); have lt2_w1_1 : w.heap.size + 1 < w1.heap.size + 1 + 1 := (by omega); have lt1_w1_2 : w.heap.size + 1 + 1 < w1.heap.size + 1 := (by omega); have lt2_w1_2 : w.heap.size + 1 + 1 < w1.heap.size + 1 + 1 := (by omega); have lt1_w1_3 : w.heap.size + 1 + 1 + 1 < w1.heap.size + 1 := (by omega); have lt2_w1_3 : w.heap.size + 1 + 1 + 1 < w1.heap.size + 1 + 1 := (by omega); have rw_w1_0 := (hr1 (w.heap.size) (by (try simp); (try omega))).trans (show rowAt _ (w.heap.size) = _ by go_simp; rfl); have rw_w1_1 := (hr1 (w.heap.size + 1) (by (try simp); (try omega))).trans (show rowAt _ (w.heap.size + 1) = _ by go_simp; rfl); have rw_w1_2 := (hr1 (w.heap.size + 1 + 1) (by (try simp); (try omega))).trans (show rowAt _ (w.heap.size + 1 + 1) = _ by go_simp; rfl); have rw_w1_3 := (hr1 (w.heap.size + 1 + 1 + 1) (by (try simp); (try omega))).trans (show rowAt _ (w.heap.size + 1 + 1 + 1) = _ by go_simp; rfl); have HK1 := hidE hk; clear hk
  go_wp2_with fail
  refine wp_region_ra [0, 1, 2, 3, 4, 5, 6, 7, 8] [] 0 (Same _) (by kernel_rfl) (by kernel_rfl) (fun u u' h k => Keeps.trans h k) (Keeps.refl _ _).drew ?_
  simp only [opsOf, List.filterMap_cons, List.filterMap_nil, List.getElem?_cons_zero, List.getElem?_cons_succ]
  repeat (refine seqV_run (v := ?_) rfl (fun u hu => ?_) ?_; rotate_left; (focus (obtain ⟨hc, hf, hr, hl, hn, hm⟩ := same_facts hu; clear hu; go_simp; first | done | with_reducible rfl)); (try simp only [Act.put, List.setIfInBounds_toArray, List.set_cons_zero, List.set_cons_succ]))
  refine seqV_call (f := 43) (args := #[.int .u8 74, .bool false]) (v := .agg #[.int .i64 F, .bool fa, .bool fb, .int .i64 fm, .bool fs]) rfl (fun u hu => ?_) (fun u _ => HO.out u) ?_
  · (obtain ⟨hc, hf, hr, hl, hn, hm⟩ := same_facts hu; clear hu; go_simp)
  simp only [Act.put, List.setIfInBounds_toArray, List.set_cons_zero, List.set_cons_succ]
  repeat (refine seqV_run (v := ?_) rfl (fun u hu => ?_) ?_; rotate_left; (focus (obtain ⟨hc, hf, hr, hl, hn, hm⟩ := same_facts hu; clear hu; go_simp; first | done | with_reducible rfl)); (try simp only [Act.put, List.setIfInBounds_toArray, List.set_cons_zero, List.set_cons_succ]))
  refine seqV_nil ?_
  refine tailR_zero fun u1 hu _ => ?_
  (obtain ⟨hc2, hf2, hr2, -, -, -⟩ := same_facts hu); have lt_u1_0 : w.heap.size < u1.heap.size := (by have hh := (hu).size; (try simp at hh); omega); have lt_u1_1 : w.heap.size + 1 < u1.heap.size := (by have hh := (hu).size; (try simp at hh); omega); have lt_u1_2 : w.heap.size + 1 + 1 < u1.heap.size := (by have hh := (hu).size; (try simp at hh); omega); have lt_u1_3 : w.heap.size + 1 + 1 + 1 < u1.heap.size := (by have hh := (hu).size; (try simp at hh); omega); have lt1_u1_0 : w.heap.size < u1.heap.size + 1 := (by omega); have lt2_u1_0 : w.heap.size < u1.heap.size + 1 + 1 := (by omega); have lt1_u1_1 : w.heap.size + 1 < u1.heap.size + 1 := (by omega); have lt2_u1_1 : w.heap.size + 1 < u1.heap.size + 1 + 1 := (by omega); have lt1_u1_2 : w.heap.size + 1 + 1 < u1.heap.size + 1 := (by omega); have lt2_u1_2 : w.heap.size + 1 + 1 < u1.heap.size + 1 + 1 := (by omega); have lt1_u1_3 : w.heap.size + 1 + 1 + 1 < u1.heap.size + 1 := (by omega); have lt2_u1_3 : w.heap.size + 1 + 1 + 1 < u1.heap.size + 1 + 1 := (by omega); have rw_u1_0 := (hr2 (w.heap.size) (by (try simp); (try omega))).trans (show rowAt _ (w.heap.size) = _ by go_simp; rfl); have rw_u1_1 := (hr2 (w.heap.size + 1) (by (try simp); (try omega))).trans (show rowAt _ (w.heap.size + 1) = _ by go_simp; rfl); have rw_u1_2 := (hr2 (w.heap.size + 1 + 1) (by (try simp); (try omega))).trans (show rowAt _ (w.heap.size + 1 + 1) = _ by go_simp; rfl); have rw_u1_3 := (hr2 (w.heap.size + 1 + 1 + 1) (by (try simp); (try omega))).trans (show rowAt _ (w.heap.size + 1 + 1 + 1) = _ by go_simp; rfl); have HK2 := hidE hu; clear hu
  have rw_u1_0 := (hr2 (w1.heap.size) (by (try simp); (try omega))).trans (show rowAt _ (w1.heap.size) = _ by go_simp; rfl)
  have lt_u1_0 : w1.heap.size < u1.heap.size := (by have hh := (HK2.out).size; (try simp at hh); omega); have lt1_u1_0 : w1.heap.size < u1.heap.size + 1 := (by omega); have lt2_u1_0 : w1.heap.size < u1.heap.size + 1 + 1 := (by omega)
  have nn_w1_0_0 : w.heap.size ≠ w1.heap.size := (by omega); have mm_w1_0_0 : w1.heap.size ≠ w.heap.size := (by omega); have nn_w1_0_1 : w.heap.size + 1 ≠ w1.heap.size := (by omega); have mm_w1_0_1 : w1.heap.size ≠ w.heap.size + 1 := (by omega); have nn_w1_0_2 : w.heap.size + 1 + 1 ≠ w1.heap.size := (by omega); have mm_w1_0_2 : w1.heap.size ≠ w.heap.size + 1 + 1 := (by omega); have nn_w1_0_3 : w.heap.size + 1 + 1 + 1 ≠ w1.heap.size := (by omega); have mm_w1_0_3 : w1.heap.size ≠ w.heap.size + 1 + 1 + 1 := (by omega)
  simp only [IntKind.wrap_u32', Int.add_emod_emod, HNX.out]
  go_wp2_with fail
  refine wp_region_ra [0, 1, 2, 3, 4, 5, 6, 7, 8, 9, 10, 11] [] 0 (Same _) (by kernel_rfl) (by kernel_rfl) (fun u u' h k => Keeps.trans h k) (Keeps.refl _ _).drew ?_
  simp only [opsOf, List.filterMap_cons, List.filterMap_nil, List.getElem?_cons_zero, List.getElem?_cons_succ]
  repeat (refine seqV_run (v := ?_) rfl (fun u hu => ?_) ?_; rotate_left; (focus (obtain ⟨hc, hf, hr, hl, hn, hm⟩ := same_facts hu; clear hu; go_simp; first | done | with_reducible rfl)); (try simp only [Act.put, List.setIfInBounds_toArray, List.set_cons_zero, List.set_cons_succ]))
  refine seqV_nil ?_
  refine tailR_zero fun u2 hu _ => ?_
  (obtain ⟨hc3, hf3, hr3, -, -, -⟩ := same_facts hu); have lt_u2_0 : w.heap.size < u2.heap.size := (by have hh := (hu).size; (try simp at hh); omega); have lt_u2_1 : w.heap.size + 1 < u2.heap.size := (by have hh := (hu).size; (try simp at hh); omega); have lt_u2_2 : w.heap.size + 1 + 1 < u2.heap.size := (by have hh := (hu).size; (try simp at hh); omega); have lt_u2_3 : w.heap.size + 1 + 1 + 1 < u2.heap.size := (by have hh := (hu).size; (try simp at hh); omega); have lt1_u2_0 : w.heap.size < u2.heap.size + 1 := (by omega); have lt2_u2_0 : w.heap.size < u2.heap.size + 1 + 1 := (by omega); have lt1_u2_1 : w.heap.size + 1 < u2.heap.size + 1 := (by omega); have lt2_u2_1 : w.heap.size + 1 < u2.heap.size + 1 + 1 := (by omega); have lt1_u2_2 : w.heap.size + 1 + 1 < u2.heap.size + 1 := (by omega); have lt2_u2_2 : w.heap.size + 1 + 1 < u2.heap.size + 1 + 1 := (by omega); have lt1_u2_3 : w.heap.size + 1 + 1 + 1 < u2.heap.size + 1 := (by omega); have lt2_u2_3 : w.heap.size + 1 + 1 + 1 < u2.heap.size + 1 + 1 := (by omega); have rw_u2_0 := (hr3 (w.heap.size) (by (try simp); (try omega))).trans (show rowAt _ (w.heap.size) = _ by go_simp; rfl); have rw_u2_1 := (hr3 (w.heap.size + 1) (by (try simp); (try omega))).trans (show rowAt _ (w.heap.size + 1) = _ by go_simp; rfl); have rw_u2_2 := (hr3 (w.heap.size + 1 + 1) (by (try simp); (try omega))).trans (show rowAt _ (w.heap.size + 1 + 1) = _ by go_simp; rfl); have rw_u2_3 := (hr3 (w.heap.size + 1 + 1 + 1) (by (try simp); (try omega))).trans (show rowAt _ (w.heap.size + 1 + 1 + 1) = _ by go_simp; rfl); have HK3 := hidE hu; clear hu
  have rw_u2_0 := (hr3 (w1.heap.size) (by (try simp); (try omega))).trans (show rowAt _ (w1.heap.size) = _ by go_simp; rfl)
  have lt_u2_0 : w1.heap.size < u2.heap.size := (by have hh := (HK3.out).size; (try simp at hh); omega); have lt1_u2_0 : w1.heap.size < u2.heap.size + 1 := (by omega); have lt2_u2_0 : w1.heap.size < u2.heap.size + 1 + 1 := (by omega)
  go_wp2
  refine post_row2 rfl Try.underlying25 rfl infoS Try.underlying31 rfl infoF rfl rfl rfl (by go_simp; rfl) (by go_simp; rfl) (sa_size _) rfl ⟨by rw [HP.out]; first | done | rfl, ?_⟩
  (repeat (first | with_reducible exact Keeps.refl _ _ | (with_reducible refine Keeps.drew ?_) | (with_reducible refine Keeps.alloc ?_ _) | (with_reducible refine Keeps.setRow ?_ (fun h => absurd h (by omega)) _) | (with_reducible refine Keeps.setCell ?_ (fun h => absurd h (by simp only []; omega)) _) | (with_reducible refine Keeps.trans ?_ HK8.out) | (with_reducible refine same_then ?_ HK8.out (fun k hk => by omega)) | (with_reducible refine Keeps.trans ?_ HK7.out) | (with_reducible refine same_then ?_ HK7.out (fun k hk => by omega)) | (with_reducible refine Keeps.trans ?_ HK6.out) | (with_reducible refine same_then ?_ HK6.out (fun k hk => by omega)) | (with_reducible refine Keeps.trans ?_ HK5.out) | (with_reducible refine same_then ?_ HK5.out (fun k hk => by omega)) | (with_reducible refine Keeps.trans ?_ HK4.out) | (with_reducible refine same_then ?_ HK4.out (fun k hk => by omega)) | (with_reducible refine Keeps.trans ?_ HK3.out) | (with_reducible refine same_then ?_ HK3.out (fun k hk => by omega)) | (with_reducible refine Keeps.trans ?_ HK2.out) | (with_reducible refine same_then ?_ HK2.out (fun k hk => by omega)) | (with_reducible refine Keeps.trans ?_ HK1.out) | (with_reducible refine same_then ?_ HK1.out (fun k hk => by omega))))
set_option maxHeartbeats 2000000 in
set_option maxRecDepth 100000 in
theorem rdo_80 (s : St) (a b imm v : Int) (hs : s.Ok) (hi : (⟨80, a, b, imm⟩ : In).Ok) (_v0 : 0 ≤ v) (_v1 : v < 4294967296) (hm : mayB ⟨80, a, b, imm⟩ false = true)  (w : World) :
    Calls Try.prog 18 #[.agg (stA s), .agg #[.int .u8 80, .int .u8 a, .int .u8 b, .int .i32 imm], .int .u32 v] w fun e w' => e = .returned (.tuple #[.agg (stA (doL s ⟨80, a, b, imm⟩ v).1), .agg (flA (doL s ⟨80, a, b, imm⟩ v).2)]) ∧ Same w w' := by
  have HM : Hid (∀ w, _) := hidE (fun w => may2_any _ false hi w)
  obtain ⟨a1, b1⟩ := may_regs hm
  simp only at a1 b1
  have a0 := hi.a0
  have b0 := hi.b0
  have o0 := hi.o0
  have o1 := hi.o1
  simp only at a0 b0 o0 o1
  have h8 : b.toNat < 8 := by omega
  have h9 : a.toNat < 8 := by omega
  have p0 := hs.r0 a.toNat
  have p1 := hs.r1 a.toNat
  have r0 := hs.r0 b.toNat
  have r1 := hs.r1 b.toNat
  have s0 := hs.ps0
  have s1 := hs.ps1
  have HO := hidE (fun w => of2_any 80 false (by omega) (by omega) w)
  rw [of2_form 80 false (by omega) (by omega)] at HO
  have hnx : (s.pc + (formL 80 false).n) % 4294967296 = nextL s ⟨80, a, b, imm⟩ := rfl
  have nx0 : 0 ≤ nextL s ⟨80, a, b, imm⟩ := Int.emod_nonneg _ (by omega)
  have nx1 : nextL s ⟨80, a, b, imm⟩ < 4294967296 := Int.emod_lt_of_pos _ (by omega)
  obtain ⟨f0, f6⟩ : 0 ≤ (formL 80 false).n ∧ (formL 80 false).n ≤ 6 := form_n 80
  have HP : Hid (doL s ⟨80, a, b, imm⟩ v = (s, ⟨8, imm % 4294967296⟩)) := hidE (by
    unfold doL; rw [if_neg (by simp [noneB, hm]), if_neg (by simp [no_fault (s := s) (i := ⟨80, a, b, imm⟩) (by simp)]), if_pos rfl])
  rw [hm] at HM
  simp only [inA] at HM
  generalize nextL s ⟨80, a, b, imm⟩ = N at *
  generalize (formL 80 false).n = F at *
  generalize decide ((formL 80 false).a = 1) = fa at *
  generalize decide ((formL 80 false).b = 1) = fb at *
  generalize (formL 80 false).m = fm at *
  generalize decide ((formL 80 false).s = 1) = fs at *
  have HNX := hidE hnx
  clear hm hi hnx
  go_enter Try.func18, Try.ntmps18
  go_wp2_with fail
  refine (HM.out _).mono ?_
  rintro e w1 ⟨rfl, hk⟩
  (obtain ⟨hc1, hf1, hr1, -, -, -⟩ := same_facts hk); have lt_w1_0 : w.heap.size < w1.heap.size := (by have hh := (hk).size; (try simp at hh); omega); have lt_w1_1 : w.heap.size + 1 < w1.heap.size := (by have hh := (hk).size; (try simp at hh); omega); have lt_w1_2 : w.heap.size + 1 + 1 < w1.heap.size := (by have hh := (hk).size; (try simp at hh); omega); have lt_w1_3 : w.heap.size + 1 + 1 + 1 < w1.heap.size := (by have hh := (hk).size; (try simp at hh); omega); have lt1_w1_0 : w.heap.size < w1.heap.size + 1 := (by omega); have lt2_w1_0 : w.heap.size < w1.heap.size + 1 + 1 := (by omega); have lt1_w1_1 : w.heap.size + 1 < w1.heap.size + 1 := (by omega); have lt2_w1_1 : w.heap.size + 1 < w1.heap.size + 1 + 1 := (by omega); have lt1_w1_2 : w.heap.size + 1 + 1 < w1.heap.size + 1 := (by omega); have lt2_w1_2 : w.heap.size + 1 + 1 < w1.heap.size + 1 + 1 := (by omega); have lt1_w1_3 : w.heap.size + 1 + 1 + 1 < w1.heap.size + 1 := (by omega); have lt2_w1_3 : w.heap.size + 1 + 1 + 1 < w1.heap.size + 1 + 1 := (by omega); have rw_w1_0 := (hr1 (w.heap.size) (by (try simp); (try omega))).trans (show rowAt _ (w.heap.size) = _ by go_simp; rfl); have rw_w1_1 := (hr1 (w.heap.size + 1) (by (try simp); (try omega))).trans (show rowAt _ (w.heap.size + 1) = _ by go_simp; rfl); have rw_w1_2 := (hr1 (w.heap.size + 1 + 1) (by (try simp); (try omega))).trans (show rowAt _ (w.heap.size + 1 + 1) = _ by go_simp; rfl); have rw_w1_3 := (hr1 (w.heap.size + 1 + 1 + 1) (by (try simp); (try omega))).trans (show rowAt _ (w.heap.size + 1 + 1 + 1) = _ by go_simp; rfl); have HK1 := hidE hk; clear hk
  go_wp2_with fail
  refine wp_region_ra [0, 1, 2, 3, 4, 5, 6, 7, 8] [] 0 (Same _) (by kernel_rfl) (by kernel_rfl) (fun u u' h k => Keeps.trans h k) (Keeps.refl _ _).drew ?_
  simp only [opsOf, List.filterMap_cons, List.filterMap_nil, List.getElem?_cons_zero, List.getElem?_cons_succ]
  repeat (refine seqV_run (v := ?_) rfl (fun u hu => ?_) ?_; rotate_left; (focus (obtain ⟨hc, hf, hr, hl, hn, hm⟩ := same_facts hu; clear hu; go_simp; first | done | with_reducible rfl)); (try simp only [Act.put, List.setIfInBounds_toArray, List.set_cons_zero, List.set_cons_succ]))
  refine seqV_call (f := 43) (args := #[.int .u8 80, .bool false]) (v := .agg #[.int .i64 F, .bool fa, .bool fb, .int .i64 fm, .bool fs]) rfl (fun u hu => ?_) (fun u _ => HO.out u) ?_
  · (obtain ⟨hc, hf, hr, hl, hn, hm⟩ := same_facts hu; clear hu; go_simp)
  simp only [Act.put, List.setIfInBounds_toArray, List.set_cons_zero, List.set_cons_succ]
  repeat (refine seqV_run (v := ?_) rfl (fun u hu => ?_) ?_; rotate_left; (focus (obtain ⟨hc, hf, hr, hl, hn, hm⟩ := same_facts hu; clear hu; go_simp; first | done | with_reducible rfl)); (try simp only [Act.put, List.setIfInBounds_toArray, List.set_cons_zero, List.set_cons_succ]))
  refine seqV_nil ?_
  refine tailR_zero fun u1 hu _ => ?_
  (obtain ⟨hc2, hf2, hr2, -, -, -⟩ := same_facts hu); have lt_u1_0 : w.heap.size < u1.heap.size := (by have hh := (hu).size; (try simp at hh); omega); have lt_u1_1 : w.heap.size + 1 < u1.heap.size := (by have hh := (hu).size; (try simp at hh); omega); have lt_u1_2 : w.heap.size + 1 + 1 < u1.heap.size := (by have hh := (hu).size; (try simp at hh); omega); have lt_u1_3 : w.heap.size + 1 + 1 + 1 < u1.heap.size := (by have hh := (hu).size; (try simp at hh); omega); have lt1_u1_0 : w.heap.size < u1.heap.size + 1 := (by omega); have lt2_u1_0 : w.heap.size < u1.heap.size + 1 + 1 := (by omega); have lt1_u1_1 : w.heap.size + 1 < u1.heap.size + 1 := (by omega); have lt2_u1_1 : w.heap.size + 1 < u1.heap.size + 1 + 1 := (by omega); have lt1_u1_2 : w.heap.size + 1 + 1 < u1.heap.size + 1 := (by omega); have lt2_u1_2 : w.heap.size + 1 + 1 < u1.heap.size + 1 + 1 := (by omega); have lt1_u1_3 : w.heap.size + 1 + 1 + 1 < u1.heap.size + 1 := (by omega); have lt2_u1_3 : w.heap.size + 1 + 1 + 1 < u1.heap.size + 1 + 1 := (by omega); have rw_u1_0 := (hr2 (w.heap.size) (by (try simp); (try omega))).trans (show rowAt _ (w.heap.size) = _ by go_simp; rfl); have rw_u1_1 := (hr2 (w.heap.size + 1) (by (try simp); (try omega))).trans (show rowAt _ (w.heap.size + 1) = _ by go_simp; rfl); have rw_u1_2 := (hr2 (w.heap.size + 1 + 1) (by (try simp); (try omega))).trans (show rowAt _ (w.heap.size + 1 + 1) = _ by go_simp; rfl); have rw_u1_3 := (hr2 (w.heap.size + 1 + 1 + 1) (by (try simp); (try omega))).trans (show rowAt _ (w.heap.size + 1 + 1 + 1) = _ by go_simp; rfl); have HK2 := hidE hu; clear hu
  have rw_u1_0 := (hr2 (w1.heap.size) (by (try simp); (try omega))).trans (show rowAt _ (w1.heap.size) = _ by go_simp; rfl)
  have lt_u1_0 : w1.heap.size < u1.heap.size := (by have hh := (HK2.out).size; (try simp at hh); omega); have lt1_u1_0 : w1.heap.size < u1.heap.size + 1 := (by omega); have lt2_u1_0 : w1.heap.size < u1.heap.size + 1 + 1 := (by omega)
  have nn_w1_0_0 : w.heap.size ≠ w1.heap.size := (by omega); have mm_w1_0_0 : w1.heap.size ≠ w.heap.size := (by omega); have nn_w1_0_1 : w.heap.size + 1 ≠ w1.heap.size := (by omega); have mm_w1_0_1 : w1.heap.size ≠ w.heap.size + 1 := (by omega); have nn_w1_0_2 : w.heap.size + 1 + 1 ≠ w1.heap.size := (by omega); have mm_w1_0_2 : w1.heap.size ≠ w.heap.size + 1 + 1 := (by omega); have nn_w1_0_3 : w.heap.size + 1 + 1 + 1 ≠ w1.heap.size := (by omega); have mm_w1_0_3 : w1.heap.size ≠ w.heap.size + 1 + 1 + 1 := (by omega)
  simp only [IntKind.wrap_u32', Int.add_emod_emod, HNX.out]
  go_wp2_with fail
  refine wp_region_ra [0, 1, 2, 3, 4, 5, 6, 7, 8, 9, 10, 11] [] 0 (Same _) (by kernel_rfl) (by kernel_rfl) (fun u u' h k => Keeps.trans h k) (Keeps.refl _ _).drew ?_
  simp only [opsOf, List.filterMap_cons, List.filterMap_nil, List.getElem?_cons_zero, List.getElem?_cons_succ]
  repeat (refine seqV_run (v := ?_) rfl (fun u hu => ?_) ?_; rotate_left; (focus (obtain ⟨hc, hf, hr, hl, hn, hm⟩ := same_facts hu; clear hu; go_simp; first | done | with_reducible rfl)); (try simp only [Act.put, List.setIfInBounds_toArray, List.set_cons_zero, List.set_cons_succ]))
  refine seqV_nil ?_
  refine tailR_zero fun u2 hu _ => ?_
  (obtain ⟨hc3, hf3, hr3, -, -, -⟩ := same_facts hu); have lt_u2_0 : w.heap.size < u2.heap.size := (by have hh := (hu).size; (try simp at hh); omega); have lt_u2_1 : w.heap.size + 1 < u2.heap.size := (by have hh := (hu).size; (try simp at hh); omega); have lt_u2_2 : w.heap.size + 1 + 1 < u2.heap.size := (by have hh := (hu).size; (try simp at hh); omega); have lt_u2_3 : w.heap.size + 1 + 1 + 1 < u2.heap.size := (by have hh := (hu).size; (try simp at hh); omega); have lt1_u2_0 : w.heap.size < u2.heap.size + 1 := (by omega); have lt2_u2_0 : w.heap.size < u2.heap.size + 1 + 1 := (by omega); have lt1_u2_1 : w.heap.size + 1 < u2.heap.size + 1 := (by omega); have lt2_u2_1 : w.heap.size + 1 < u2.heap.size + 1 + 1 := (by omega); have lt1_u2_2 : w.heap.size + 1 + 1 < u2.heap.size + 1 := (by omega); have lt2_u2_2 : w.heap.size + 1 + 1 < u2.heap.size + 1 + 1 := (by omega); have lt1_u2_3 : w.heap.size + 1 + 1 + 1 < u2.heap.size + 1 := (by omega); have lt2_u2_3 : w.heap.size + 1 + 1 + 1 < u2.heap.size + 1 + 1 := (by omega); have rw_u2_0 := (hr3 (w.heap.size) (by (try simp); (try omega))).trans (show rowAt _ (w.heap.size) = _ by go_simp; rfl); have rw_u2_1 := (hr3 (w.heap.size + 1) (by (try simp); (try omega))).trans (show rowAt _ (w.heap.size + 1) = _ by go_simp; rfl); have rw_u2_2 := (hr3 (w.heap.size + 1 + 1) (by (try simp); (try omega))).trans (show rowAt _ (w.heap.size + 1 + 1) = _ by go_simp; rfl); have rw_u2_3 := (hr3 (w.heap.size + 1 + 1 + 1) (by (try simp); (try omega))).trans (show rowAt _ (w.heap.size + 1 + 1 + 1) = _ by go_simp; rfl); have HK3 := hidE hu; clear hu
  have rw_u2_0 := (hr3 (w1.heap.size) (by (try simp); (try omega))).trans (show rowAt _ (w1.heap.size) = _ by go_simp; rfl)
  have lt_u2_0 : w1.heap.size < u2.heap.size := (by have hh := (HK3.out).size; (try simp at hh); omega); have lt1_u2_0 : w1.heap.size < u2.heap.size + 1 := (by omega); have lt2_u2_0 : w1.heap.size < u2.heap.size + 1 + 1 := (by omega)
  go_wp2_with fail
  refine wp_region_ra [0, 1, 2, 3, 4] [5, 6] 1 (SR _ (w.heap.size + 1 + 1) 18) (by kernel_rfl) (by kernel_rfl) SR.same (SR.init (by go_simp; first | done | rfl)) ?_
  simp only [opsOf, List.filterMap_cons, List.filterMap_nil, List.getElem?_cons_zero, List.getElem?_cons_succ]
  repeat (refine seqV_run (v := ?_) rfl (fun u hu => ?_) ?_; rotate_left; (focus (obtain ⟨hc, hf, hr⟩ := SR.facts hu; clear hu; go_simp; first | done | with_reducible rfl)); (try simp only [Act.put, List.setIfInBounds_toArray, List.set_cons_zero, List.set_cons_succ]))
  refine seqV_nil ?_
  refine tailR_row (A := stA s) rfl (sa_size _) (fun u hu => ?_) ?_
  · have z := hu.z
    clear hu
    go_simp
  simp only [Act.put]
  refine tailR_zero fun u9 hu hrow => ?_
  obtain ⟨hc9, hf9, hr9⟩ := SR.facts hu
  have lt_u9_0 : w.heap.size < u9.heap.size := (by have hh := (hu.k).size; (try simp at hh); omega); have lt_u9_1 : w.heap.size + 1 < u9.heap.size := (by have hh := (hu.k).size; (try simp at hh); omega); have lt_u9_2 : w.heap.size + 1 + 1 < u9.heap.size := (by have hh := (hu.k).size; (try simp at hh); omega); have lt_u9_3 : w.heap.size + 1 + 1 + 1 < u9.heap.size := (by have hh := (hu.k).size; (try simp at hh); omega); have lt1_u9_0 : w.heap.size < u9.heap.size + 1 := (by omega); have lt2_u9_0 : w.heap.size < u9.heap.size + 1 + 1 := (by omega); have lt1_u9_1 : w.heap.size + 1 < u9.heap.size + 1 := (by omega); have lt2_u9_1 : w.heap.size + 1 < u9.heap.size + 1 + 1 := (by omega); have lt1_u9_2 : w.heap.size + 1 + 1 < u9.heap.size + 1 := (by omega); have lt2_u9_2 : w.heap.size + 1 + 1 < u9.heap.size + 1 + 1 := (by omega); have lt1_u9_3 : w.heap.size + 1 + 1 + 1 < u9.heap.size + 1 := (by omega); have lt2_u9_3 : w.heap.size + 1 + 1 + 1 < u9.heap.size + 1 + 1 := (by omega)
  have rw_u9_3 := (hr9 (w.heap.size + 1 + 1 + 1) (by (try simp); (try omega)) (by (try simp); (try omega))).trans (show rowAt _ (w.heap.size + 1 + 1 + 1) = _ by go_simp; rfl)
  have HK7 := hidE hu.k
  clear hu
  simp only [IntKind.wrap_u32']
  go_wp2
  refine post_row2 rfl Try.underlying25 rfl infoS Try.underlying31 rfl infoF rfl rfl rfl (by go_simp; rfl) (by go_simp; rfl) (sa_size _) rfl ⟨by rw [HP.out]; first | done | rfl, ?_⟩
  (repeat (first | with_reducible exact Keeps.refl _ _ | (with_reducible refine Keeps.drew ?_) | (with_reducible refine Keeps.alloc ?_ _) | (with_reducible refine Keeps.setRow ?_ (fun h => absurd h (by omega)) _) | (with_reducible refine Keeps.setCell ?_ (fun h => absurd h (by simp only []; omega)) _) | (with_reducible refine Keeps.trans ?_ HK8.out) | (with_reducible refine same_then ?_ HK8.out (fun k hk => by omega)) | (with_reducible refine Keeps.trans ?_ HK7.out) | (with_reducible refine same_then ?_ HK7.out (fun k hk => by omega)) | (with_reducible refine Keeps.trans ?_ HK6.out) | (with_reducible refine same_then ?_ HK6.out (fun k hk => by omega)) | (with_reducible refine Keeps.trans ?_ HK5.out) | (with_reducible refine same_then ?_ HK5.out (fun k hk => by omega)) | (with_reducible refine Keeps.trans ?_ HK4.out) | (with_reducible refine same_then ?_ HK4.out (fun k hk => by omega)) | (with_reducible refine Keeps.trans ?_ HK3.out) | (with_reducible refine same_then ?_ HK3.out (fun k hk => by omega)) | (with_reducible refine Keeps.trans ?_ HK2.out) | (with_reducible refine same_then ?_ HK2.out (fun k hk => by omega)) | (with_reducible refine Keeps.trans ?_ HK1.out) | (with_reducible refine same_then ?_ HK1.out (fun k hk => by omega))))
end Go.Proofs.Ytdbfjgmehmbefaa
