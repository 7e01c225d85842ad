/- The reference of layer 8: Do (second part). -/
import Derived.Test.YtdbfjgmehmbefaaRef8h
namespace Go.Proofs.Ytdbfjgmehmbefaa
open Go.RowKit
attribute [local go_sem ↓] x_ldS x_stS x_ldI x_stI x_ldA x_stA x_ldF x_stF
attribute [local go_sem] ne_s1 en_s1 ne_s2 en_s2 ne_s3 en_s3 ne_s4 en_s4 ne_s5 en_s5 ne_s6 en_s6 ne_s7 en_s7 ne_s8 en_s8 ne_s9 en_s9 ne_s10 en_s10 ne_s11 en_s11 lt_s2 lt_s3 lt_s4 lt_s5 lt_s6 lt_s7 lt_s8 lt_s9 lt_s10 lt_s11 rowAt_at rowAt_old rowAt_drew rowAt_drewN setRow_drew setRow_at setRow_old setCell_row setRow_setRow rowAt_setRow_eq rowAt_setRow_ne cell_setRow_eq cell_setRow_ne frozen_setRow_eq frozen_setRow_ne ones_lit oc_int oc_bool oc_str oc_ptr oc_sl oc_map oc_fn oc_nf oc_ni oc_if ld_S st_S ld_I st_I ld_A st_A ld_F st_F sa_size sa_one ac_size fl_size ac_one fl_one fl_c fl_a fg_c fg_a sa_pc sa_ps sg_pc sg_ps sa_r6 sa_r7 sg_r6 sg_r7 sa_r sg_r ss_pc ss_ps ss_r6 ss_r7 ss_r st0_eq
attribute [local go_sem] fld_of2
set_option maxHeartbeats 2000000 in
set_option maxRecDepth 100000 in
theorem rdo_25_0 (s : St) (a b imm v : Int) (hs : s.Ok) (hi : (⟨25, a, b, imm⟩ : In).Ok) (_v0 : 0 ≤ v) (_v1 : v < 4294967296) (hm : mayB ⟨25, a, b, imm⟩ false = true) (hz : s.R b.toNat = 0) (w : World) :
    Calls Try.prog 18 #[.agg (stA s), .agg #[.int .u8 25, .int .u8 a, .int .u8 b, .int .i32 imm], .int .u32 v] w fun e w' => e = .returned (.tuple #[.agg (stA (doL s ⟨25, a, b, imm⟩ v).1), .agg (flA (doL s ⟨25, a, b, imm⟩ v).2)]) ∧ Same w w' := by
  have HM : Hid (∀ w, _) := hidE (fun w => may2_any _ false hi w)
  obtain ⟨a1, b1⟩ := may_regs hm
  simp only at a1 b1
  have a0 := hi.a0
  have b0 := hi.b0
  have o0 := hi.o0
  have o1 := hi.o1
  simp only at a0 b0 o0 o1
  have h8 : b.toNat < 8 := by omega
  have h9 : a.toNat < 8 := by omega
  have p0 := hs.r0 a.toNat
  have p1 := hs.r1 a.toNat
  have r0 := hs.r0 b.toNat
  have r1 := hs.r1 b.toNat
  have s0 := hs.ps0
  have s1 := hs.ps1
  have HO := hidE (fun w => of2_any 25 false (by omega) (by omega) w)
  rw [of2_form 25 false (by omega) (by omega)] at HO
  have hnx : (s.pc + (formL 25 false).n) % 4294967296 = nextL s ⟨25, a, b, imm⟩ := rfl
  have nx0 : 0 ≤ nextL s ⟨25, a, b, imm⟩ := Int.emod_nonneg _ (by omega)
  have nx1 : nextL s ⟨25, a, b, imm⟩ < 4294967296 := Int.emod_lt_of_pos _ (by omega)
  obtain ⟨f0, f6⟩ : 0 ≤ (formL 25 false).n ∧ (formL 25 false).n ≤ 6 := form_n 25
  have HP : Hid (doL s ⟨25, a, b, imm⟩ v = (s, ⟨3, 0⟩)) := hidE (by
    rw [doL_plain s _ v hm (by simp) (no_fault (by simp))]
    show partedL (s.setPc (nextL s ⟨25, a, b, imm⟩)) ⟨25, a, b, imm⟩ s = _
    unfold partedL
    rw [if_pos (show (s.setPc (nextL s ⟨25, a, b, imm⟩)).R b.toNat = 0 from hz)])
  have HS : Hid (∀ w, Calls Try.prog 44 #[.int .u8 25, .int .u32 (s.R a.toNat), .int .u32 (s.R b.toNat)] w fun e w' => e = .returned (.tuple #[.int .u32 0, .int .u32 0, .bool false]) ∧ Same w w') := hidE (fun w => by rw [hz]; exact made_25_0 _ w)
  clear hz
  rw [hm] at HM
  simp only [inA] at HM
  generalize nextL s ⟨25, a, b, imm⟩ = N at *
  generalize (formL 25 false).n = F at *
  generalize decide ((formL 25 false).a = 1) = fa at *
  generalize decide ((formL 25 false).b = 1) = fb at *
  generalize (formL 25 false).m = fm at *
  generalize decide ((formL 25 false).s = 1) = fs at *
  have HNX := hidE hnx
  clear hm hi hnx
  go_enter Try.func18, Try.ntmps18
  go_wp2_with fail
  refine (HM.out _).mono ?_
  rintro e w1 ⟨rfl, hk⟩
  (obtain ⟨hc1, hf1, hr1, -, -, -⟩ := same_facts hk); have lt_w1_0 : w.heap.size < w1.heap.size := (by have hh := (hk).size; (try simp at hh); omega); have lt_w1_1 : w.heap.size + 1 < w1.heap.size := (by have hh := (hk).size; (try simp at hh); omega); have lt_w1_2 : w.heap.size + 1 + 1 < w1.heap.size := (by have hh := (hk).size; (try simp at hh); omega); have lt_w1_3 : w.heap.size + 1 + 1 + 1 < w1.heap.size := (by have hh := (hk).size; (try simp at hh); omega); have lt1_w1_0 : w.heap.size < w1.heap.size + 1 := (by omega); have lt2_w1_0 : w.heap.size < w1.heap.size + 1 + 1 := (by omega); have lt1_w1_1 : w.heap.size + 1 < w1.heap.size + 1 := (by omega); have lt2_w1_1 : w.heap.size + 1 < w1.heap.size + 1 + 1 := (by omega); have lt1_w1_2 : w.heap.size + 1 + 1 < w1.heap.size + 1 := (by omega); have lt2_w1_2 : w.heap.size + 1 + 1 < w1.heap.size + 1 + 1 := (by omega); have lt1_w1_3 : w.heap.size + 1 + 1 + 1 < w1.heap.size + 1 := (by omega); have lt2_w1_3 : w.heap.size + 1 + 1 + 1 < w1.heap.size + 1 + 1 := (by omega); have rw_w1_0 := (hr1 (w.heap.size) (by (try simp); (try omega))).trans (show rowAt _ (w.heap.size) = _ by go_simp; rfl); have rw_w1_1 := (hr1 (w.heap.size + 1) (by (try simp); (try omega))).trans (show rowAt _ (w.heap.size + 1) = _ by go_simp; rfl); have rw_w1_2 := (hr1 (w.heap.size + 1 + 1) (by (try simp); (try omega))).trans (show rowAt _ (w.heap.size + 1 + 1) = _ by go_simp; rfl); have rw_w1_3 := (hr1 (w.heap.size + 1 + 1 + 1) (by (try simp); (try omega))).trans (show rowAt _ (w.heap.size + 1 + 1 + 1) = _ by go_simp; rfl); have HK1 := hidE hk; clear hk
  go_wp2_with fail
  refine wp_region_ra [0, 1, 2, 3, 4, 5, 6, 7, 8] [] 0 (Same _) (by kernel_rfl) (by kernel_rfl) (fun u u' h k => Keeps.trans h k) (Keeps.refl _ _).drew ?_
  simp only [opsOf, List.filterMap_cons, List.filterMap_nil, List.getElem?_cons_zero, List.getElem?_cons_succ]
  repeat (refine seqV_run (v := ?_) rfl (fun u hu => ?_) ?_; rotate_left; (focus (obtain ⟨hc, hf, hr, hl, hn, hm⟩ := same_facts hu; clear hu; go_simp; first | done | with_reducible rfl)); (try simp only [Act.put, List.setIfInBounds_toArray, List.set_cons_zero, List.set_cons_succ]))
  refine seqV_call (f := 43) (args := #[.int .u8 25, .bool false]) (v := .agg #[.int .i64 F, .bool fa, .bool fb, .int .i64 fm, .bool fs]) rfl (fun u hu => ?_) (fun u _ => HO.out u) ?_
  · (obtain ⟨hc, hf, hr, hl, hn, hm⟩ := same_facts hu; clear hu; go_simp)
  simp only [Act.put, List.setIfInBounds_toArray, List.set_cons_zero, List.set_cons_succ]
  repeat (refine seqV_run (v := ?_) rfl (fun u hu => ?_) ?_; rotate_left; (focus (obtain ⟨hc, hf, hr, hl, hn, hm⟩ := same_facts hu; clear hu; go_simp; first | done | with_reducible rfl)); (try simp only [Act.put, List.setIfInBounds_toArray, List.set_cons_zero, List.set_cons_succ]))
  refine seqV_nil ?_
  refine tailR_zero fun u1 hu _ => ?_
  (obtain ⟨hc2, hf2, hr2, -, -, -⟩ := same_facts hu); have lt_u1_0 : w.heap.size < u1.heap.size := (by have hh := (hu).size; (try simp at hh); omega); have lt_u1_1 : w.heap.size + 1 < u1.heap.size := (by have hh := (hu).size; (try simp at hh); omega); have lt_u1_2 : w.heap.size + 1 + 1 < u1.heap.size := (by have hh := (hu).size; (try simp at hh); omega); have lt_u1_3 : w.heap.size + 1 + 1 + 1 < u1.heap.size := (by have hh := (hu).size; (try simp at hh); omega); have lt1_u1_0 : w.heap.size < u1.heap.size + 1 := (by omega); have lt2_u1_0 : w.heap.size < u1.heap.size + 1 + 1 := (by omega); have lt1_u1_1 : w.heap.size + 1 < u1.heap.size + 1 := (by omega); have lt2_u1_1 : w.heap.size + 1 < u1.heap.size + 1 + 1 := (by omega); have lt1_u1_2 : w.heap.size + 1 + 1 < u1.heap.size + 1 := (by omega); have lt2_u1_2 : w.heap.size + 1 + 1 < u1.heap.size + 1 + 1 := (by omega); have lt1_u1_3 : w.heap.size + 1 + 1 + 1 < u1.heap.size + 1 := (by omega); have lt2_u1_3 : w.heap.size + 1 + 1 + 1 < u1.heap.size + 1 + 1 := (by omega); have rw_u1_0 := (hr2 (w.heap.size) (by (try simp); (try omega))).trans (show rowAt _ (w.heap.size) = _ by go_simp; rfl); have rw_u1_1 := (hr2 (w.heap.size + 1) (by (try simp); (try omega))).trans (show rowAt _ (w.heap.size + 1) = _ by go_simp; rfl); have rw_u1_2 := (hr2 (w.heap.size + 1 + 1) (by (try simp); (try omega))).trans (show rowAt _ (w.heap.size + 1 + 1) = _ by go_simp; rfl); have rw_u1_3 := (hr2 (w.heap.size + 1 + 1 + 1) (by (try simp); (try omega))).trans (show rowAt _ (w.heap.size + 1 + 1 + 1) = _ by go_simp; rfl); have HK2 := hidE hu; clear hu
  have rw_u1_0 := (hr2 (w1.heap.size) (by (try simp); (try omega))).trans (show rowAt _ (w1.heap.size) = _ by go_simp; rfl)
  have lt_u1_0 : w1.heap.size < u1.heap.size := (by have hh := (HK2.out).size; (try simp at hh); omega); have lt1_u1_0 : w1.heap.size < u1.heap.size + 1 := (by omega); have lt2_u1_0 : w1.heap.size < u1.heap.size + 1 + 1 := (by omega)
  have nn_w1_0_0 : w.heap.size ≠ w1.heap.size := (by omega); have mm_w1_0_0 : w1.heap.size ≠ w.heap.size := (by omega); have nn_w1_0_1 : w.heap.size + 1 ≠ w1.heap.size := (by omega); have mm_w1_0_1 : w1.heap.size ≠ w.heap.size + 1 := (by omega); have nn_w1_0_2 : w.heap.size + 1 + 1 ≠ w1.heap.size := (by omega); have mm_w1_0_2 : w1.heap.size ≠ w.heap.size + 1 + 1 := (by omega); have nn_w1_0_3 : w.heap.size + 1 + 1 + 1 ≠ w1.heap.size := (by omega); have mm_w1_0_3 : w1.heap.size ≠ w.heap.size + 1 + 1 + 1 := (by omega)
  simp only [IntKind.wrap_u32', Int.add_emod_emod, HNX.out]
  go_wp2_with fail
  refine wp_region_ra [0, 1, 2, 3, 4, 5, 6, 7, 8, 9, 10, 11] [] 0 (Same _) (by kernel_rfl) (by kernel_rfl) (fun u u' h k => Keeps.trans h k) (Keeps.refl _ _).drew ?_
  simp only [opsOf, List.filterMap_cons, List.filterMap_nil, List.getElem?_cons_zero, List.getElem?_cons_succ]
  repeat (refine seqV_run (v := ?_) rfl (fun u hu => ?_) ?_; rotate_left; (focus (obtain ⟨hc, hf, hr, hl, hn, hm⟩ := same_facts hu; clear hu; go_simp; first | done | with_reducible rfl)); (try simp only [Act.put, List.setIfInBounds_toArray, List.set_cons_zero, List.set_cons_succ]))
  refine seqV_nil ?_
  refine tailR_zero fun u2 hu _ => ?_
  (obtain ⟨hc3, hf3, hr3, -, -, -⟩ := same_facts hu); have lt_u2_0 : w.heap.size < u2.heap.size := (by have hh := (hu).size; (try simp at hh); omega); have lt_u2_1 : w.heap.size + 1 < u2.heap.size := (by have hh := (hu).size; (try simp at hh); omega); have lt_u2_2 : w.heap.size + 1 + 1 < u2.heap.size := (by have hh := (hu).size; (try simp at hh); omega); have lt_u2_3 : w.heap.size + 1 + 1 + 1 < u2.heap.size := (by have hh := (hu).size; (try simp at hh); omega); have lt1_u2_0 : w.heap.size < u2.heap.size + 1 := (by omega); have lt2_u2_0 : w.heap.size < u2.heap.size + 1 + 1 := (by omega); have lt1_u2_1 : w.heap.size + 1 < u2.heap.size + 1 := (by omega); have lt2_u2_1 : w.heap.size + 1 < u2.heap.size + 1 + 1 := (by omega); have lt1_u2_2 : w.heap.size + 1 + 1 < u2.heap.size + 1 := (by omega); have lt2_u2_2 : w.heap.size + 1 + 1 < u2.heap.size + 1 + 1 := (by omega); have lt1_u2_3 : w.heap.size + 1 + 1 + 1 < u2.heap.size + 1 := (by omega); have lt2_u2_3 : w.heap.size + 1 + 1 + 1 < u2.heap.size + 1 + 1 := (by omega); have rw_u2_0 := (hr3 (w.heap.size) (by (try simp); (try omega))).trans (show rowAt _ (w.heap.size) = _ by go_simp; rfl); have rw_u2_1 := (hr3 (w.heap.size + 1) (by (try simp); (try omega))).trans (show rowAt _ (w.heap.size + 1) = _ by go_simp; rfl); have rw_u2_2 := (hr3 (w.heap.size + 1 + 1) (by (try simp); (try omega))).trans (show rowAt _ (w.heap.size + 1 + 1) = _ by go_simp; rfl); have rw_u2_3 := (hr3 (w.heap.size + 1 + 1 + 1) (by (try simp); (try omega))).trans (show rowAt _ (w.heap.size + 1 + 1 + 1) = _ by go_simp; rfl); have HK3 := hidE hu; clear hu
  have rw_u2_0 := (hr3 (w1.heap.size) (by (try simp); (try omega))).trans (show rowAt _ (w1.heap.size) = _ by go_simp; rfl)
  have lt_u2_0 : w1.heap.size < u2.heap.size := (by have hh := (HK3.out).size; (try simp at hh); omega); have lt1_u2_0 : w1.heap.size < u2.heap.size + 1 := (by omega); have lt2_u2_0 : w1.heap.size < u2.heap.size + 1 + 1 := (by omega)
  go_wp2_with fail
  refine (HS.out _).mono ?_
  rintro e w4 ⟨rfl, hk⟩
  (obtain ⟨hc4, hf4, hr4, -, -, -⟩ := same_facts hk); have lt_w4_0 : w.heap.size < w4.heap.size := (by have hh := (hk).size; (try simp at hh); omega); have lt_w4_1 : w.heap.size + 1 < w4.heap.size := (by have hh := (hk).size; (try simp at hh); omega); have lt_w4_2 : w.heap.size + 1 + 1 < w4.heap.size := (by have hh := (hk).size; (try simp at hh); omega); have lt_w4_3 : w.heap.size + 1 + 1 + 1 < w4.heap.size := (by have hh := (hk).size; (try simp at hh); omega); have lt1_w4_0 : w.heap.size < w4.heap.size + 1 := (by omega); have lt2_w4_0 : w.heap.size < w4.heap.size + 1 + 1 := (by omega); have lt1_w4_1 : w.heap.size + 1 < w4.heap.size + 1 := (by omega); have lt2_w4_1 : w.heap.size + 1 < w4.heap.size + 1 + 1 := (by omega); have lt1_w4_2 : w.heap.size + 1 + 1 < w4.heap.size + 1 := (by omega); have lt2_w4_2 : w.heap.size + 1 + 1 < w4.heap.size + 1 + 1 := (by omega); have lt1_w4_3 : w.heap.size + 1 + 1 + 1 < w4.heap.size + 1 := (by omega); have lt2_w4_3 : w.heap.size + 1 + 1 + 1 < w4.heap.size + 1 + 1 := (by omega); have rw_w4_0 := (hr4 (w.heap.size) (by (try simp); (try omega))).trans (show rowAt _ (w.heap.size) = _ by go_simp; rfl); have rw_w4_1 := (hr4 (w.heap.size + 1) (by (try simp); (try omega))).trans (show rowAt _ (w.heap.size + 1) = _ by go_simp; rfl); have rw_w4_2 := (hr4 (w.heap.size + 1 + 1) (by (try simp); (try omega))).trans (show rowAt _ (w.heap.size + 1 + 1) = _ by go_simp; rfl); have rw_w4_3 := (hr4 (w.heap.size + 1 + 1 + 1) (by (try simp); (try omega))).trans (show rowAt _ (w.heap.size + 1 + 1 + 1) = _ by go_simp; rfl); have HK4 := hidE hk; clear hk
  have rw_w4_0 := (hr4 (w1.heap.size) (by (try simp); (try omega))).trans (show rowAt _ (w1.heap.size) = _ by go_simp; rfl)
  have lt_w4_0 : w1.heap.size < w4.heap.size := (by have hh := (HK4.out).size; (try simp at hh); omega); have lt1_w4_0 : w1.heap.size < w4.heap.size + 1 := (by omega); have lt2_w4_0 : w1.heap.size < w4.heap.size + 1 + 1 := (by omega)
  go_wp2
  refine post_row2 rfl Try.underlying25 rfl infoS Try.underlying31 rfl infoF rfl rfl rfl (by go_simp; rfl) (by go_simp; rfl) (sa_size _) rfl ⟨by rw [HP.out]; first | done | rfl, ?_⟩
  (repeat (first | with_reducible exact Keeps.refl _ _ | (with_reducible refine Keeps.drew ?_) | (with_reducible refine Keeps.alloc ?_ _) | (with_reducible refine Keeps.setRow ?_ (fun h => absurd h (by omega)) _) | (with_reducible refine Keeps.setCell ?_ (fun h => absurd h (by simp only []; omega)) _) | (with_reducible refine Keeps.trans ?_ HK8.out) | (with_reducible refine same_then ?_ HK8.out (fun k hk => by omega)) | (with_reducible refine Keeps.trans ?_ HK7.out) | (with_reducible refine same_then ?_ HK7.out (fun k hk => by omega)) | (with_reducible refine Keeps.trans ?_ HK6.out) | (with_reducible refine same_then ?_ HK6.out (fun k hk => by omega)) | (with_reducible refine Keeps.trans ?_ HK5.out) | (with_reducible refine same_then ?_ HK5.out (fun k hk => by omega)) | (with_reducible refine Keeps.trans ?_ HK4.out) | (with_reducible refine same_then ?_ HK4.out (fun k hk => by omega)) | (with_reducible refine Keeps.trans ?_ HK3.out) | (with_reducible refine same_then ?_ HK3.out (fun k hk => by omega)) | (with_reducible refine Keeps.trans ?_ HK2.out) | (with_reducible refine same_then ?_ HK2.out (fun k hk => by omega)) | (with_reducible refine Keeps.trans ?_ HK1.out) | (with_reducible refine same_then ?_ HK1.out (fun k hk => by omega))))
set_option maxHeartbeats 2000000 in
set_option maxRecDepth 100000 in
theorem rdo_25 (s : St) (a b imm v : Int) (hs : s.Ok) (hi : (⟨25, a, b, imm⟩ : In).Ok) (_v0 : 0 ≤ v) (_v1 : v < 4294967296) (hm : mayB ⟨25, a, b, imm⟩ false = true) (hz : s.R b.toNat ≠ 0) (w : World) :
    Calls Try.prog 18 #[.agg (stA s), .agg #[.int .u8 25, .int .u8 a, .int .u8 b, .int .i32 imm], .int .u32 v] w fun e w' => e = .returned (.tuple #[.agg (stA (doL s ⟨25, a, b, imm⟩ v).1), .agg (flA (doL s ⟨25, a, b, imm⟩ v).2)]) ∧ Same w w' := by
  have HM : Hid (∀ w, _) := hidE (fun w => may2_any _ false hi w)
  obtain ⟨a1, b1⟩ := may_regs hm
  simp only at a1 b1
  have a0 := hi.a0
  have b0 := hi.b0
  have o0 := hi.o0
  have o1 := hi.o1
  simp only at a0 b0 o0 o1
  have h8 : b.toNat < 8 := by omega
  have h9 : a.toNat < 8 := by omega
  have p0 := hs.r0 a.toNat
  have p1 := hs.r1 a.toNat
  have r0 := hs.r0 b.toNat
  have r1 := hs.r1 b.toNat
  have s0 := hs.ps0
  have s1 := hs.ps1
  have HO := hidE (fun w => of2_any 25 false (by omega) (by omega) w)
  rw [of2_form 25 false (by omega) (by omega)] at HO
  have hnx : (s.pc + (formL 25 false).n) % 4294967296 = nextL s ⟨25, a, b, imm⟩ := rfl
  have nx0 : 0 ≤ nextL s ⟨25, a, b, imm⟩ := Int.emod_nonneg _ (by omega)
  have nx1 : nextL s ⟨25, a, b, imm⟩ < 4294967296 := Int.emod_lt_of_pos _ (by omega)
  obtain ⟨f0, f6⟩ : 0 ≤ (formL 25 false).n ∧ (formL 25 false).n ≤ 6 := form_n 25
  have HP : Hid (doL s ⟨25, a, b, imm⟩ v = (turnS ((s.setPc (nextL s ⟨25, a, b, imm⟩)).setR a.toNat (s.R a.toNat / s.R b.toNat)) (zn (s.R a.toNat / s.R b.toNat)), fl0)) := hidE (by
    rw [doL_plain s _ v hm (by simp) (no_fault (by simp))]
    show partedL (s.setPc (nextL s ⟨25, a, b, imm⟩)) ⟨25, a, b, imm⟩ s = _
    unfold partedL
    rw [if_neg (show ¬ (s.setPc (nextL s ⟨25, a, b, imm⟩)).R b.toNat = 0 from hz)]
    rfl)
  have HF := hidE (fun w => flagged_any s.ps (zn (s.R a.toNat / s.R b.toNat)) s0 s1 (znf8 _) w)
  have HS := hidE (fun w => made_25 (s.R a.toNat) (s.R b.toNat) p0 p1 (by omega) r1 w)
  generalize (s.R a.toNat / s.R b.toNat) = Q at HF HS HP
  clear hz
  rw [hm] at HM
  simp only [inA] at HM
  generalize nextL s ⟨25, a, b, imm⟩ = N at *
  generalize (formL 25 false).n = F at *
  generalize decide ((formL 25 false).a = 1) = fa at *
  generalize decide ((formL 25 false).b = 1) = fb at *
  generalize (formL 25 false).m = fm at *
  generalize decide ((formL 25 false).s = 1) = fs at *
  have HNX := hidE hnx
  clear hm hi hnx
  go_enter Try.func18, Try.ntmps18
  go_wp2_with fail
  refine (HM.out _).mono ?_
  rintro e w1 ⟨rfl, hk⟩
  (obtain ⟨hc1, hf1, hr1, -, -, -⟩ := same_facts hk); have lt_w1_0 : w.heap.size < w1.heap.size := (by have hh := (hk).size; (try simp at hh); omega); have lt_w1_1 : w.heap.size + 1 < w1.heap.size := (by have hh := (hk).size; (try simp at hh); omega); have lt_w1_2 : w.heap.size + 1 + 1 < w1.heap.size := (by have hh := (hk).size; (try simp at hh); omega); have lt_w1_3 : w.heap.size + 1 + 1 + 1 < w1.heap.size := (by have hh := (hk).size; (try simp at hh); omega); have lt1_w1_0 : w.heap.size < w1.heap.size + 1 := (by omega); have lt2_w1_0 : w.heap.size < w1.heap.size + 1 + 1 := (by omega); have lt1_w1_1 : w.heap.size + 1 < w1.heap.size + 1 := (by omega); have lt2_w1_1 : w.heap.size + 1 < w1.heap.size + 1 + 1 := (by omega); have lt1_w1_2 : w.heap.size + 1 + 1 < w1.heap.size + 1 := (by omega); have lt2_w1_2 : w.heap.size + 1 + 1 < w1.heap.size + 1 + 1 := (by omega); have lt1_w1_3 : w.heap.size + 1 + 1 + 1 < w1.heap.size + 1 := (by omega); have lt2_w1_3 : w.heap.size + 1 + 1 + 1 < w1.heap.size + 1 + 1 := (by omega); have rw_w1_0 := (hr1 (w.heap.size) (by (try simp); (try omega))).trans (show rowAt _ (w.heap.size) = _ by go_simp; rfl); have rw_w1_1 := (hr1 (w.heap.size + 1) (by (try simp); (try omega))).trans (show rowAt _ (w.heap.size + 1) = _ by go_simp; rfl); have rw_w1_2 := (hr1 (w.heap.size + 1 + 1) (by (try simp); (try omega))).trans (show rowAt _ (w.heap.size + 1 + 1) = _ by go_simp; rfl); have rw_w1_3 := (hr1 (w.heap.size + 1 + 1 + 1) (by (try simp); (try omega))).trans (show rowAt _ (w.heap.size + 1 + 1 + 1) = _ by go_simp; rfl); have HK1 := hidE hk; clear hk
  go_wp2_with fail
  refine wp_region_ra [0, 1, 2, 3, 4, 5, 6, 7, 8] [] 0 (Same _) (by kernel_rfl) (by kernel_rfl) (fun u u' h k => Keeps.trans h k) (Keeps.refl _ _).drew ?_
  simp only [opsOf, List.filterMap_cons, List.filterMap_nil, List.getElem?_cons_zero, List.getElem?_cons_succ]
  repeat (refine seqV_run (v := ?_) rfl (fun u hu => ?_) ?_; rotate_left; (focus (obtain ⟨hc, hf, hr, hl, hn, hm⟩ := same_facts hu; clear hu; go_simp; first | done | with_reducible rfl)); (try simp only [Act.put, List.setIfInBounds_toArray, List.set_cons_zero, List.set_cons_succ]))
  refine seqV_call (f := 43) (args := #[.int .u8 25, .bool false]) (v := .agg #[.int .i64 F, .bool fa, .bool fb, .int .i64 fm, .bool fs]) rfl (fun u hu => ?_) (fun u _ => HO.out u) ?_
  · (obtain ⟨hc, hf, hr, hl, hn, hm⟩ := same_facts hu; clear hu; go_simp)
  simp only [Act.put, List.setIfInBounds_toArray, List.set_cons_zero, List.set_cons_succ]
  repeat (refine seqV_run (v := ?_) rfl (fun u hu => ?_) ?_; rotate_left; (focus (obtain ⟨hc, hf, hr, hl, hn, hm⟩ := same_facts hu; clear hu; go_simp; first | done | with_reducible rfl)); (try simp only [Act.put, List.setIfInBounds_toArray, List.set_cons_zero, List.set_cons_succ]))
  refine seqV_nil ?_
  refine tailR_zero fun u1 hu _ => ?_
  (obtain ⟨hc2, hf2, hr2, -, -, -⟩ := same_facts hu); have lt_u1_0 : w.heap.size < u1.heap.size := (by have hh := (hu).size; (try simp at hh); omega); have lt_u1_1 : w.heap.size + 1 < u1.heap.size := (by have hh := (hu).size; (try simp at hh); omega); have lt_u1_2 : w.heap.size + 1 + 1 < u1.heap.size := (by have hh := (hu).size; (try simp at hh); omega); have lt_u1_3 : w.heap.size + 1 + 1 + 1 < u1.heap.size := (by have hh := (hu).size; (try simp at hh); omega); have lt1_u1_0 : w.heap.size < u1.heap.size + 1 := (by omega); have lt2_u1_0 : w.heap.size < u1.heap.size + 1 + 1 := (by omega); have lt1_u1_1 : w.heap.size + 1 < u1.heap.size + 1 := (by omega); have lt2_u1_1 : w.heap.size + 1 < u1.heap.size + 1 + 1 := (by omega); have lt1_u1_2 : w.heap.size + 1 + 1 < u1.heap.size + 1 := (by omega); have lt2_u1_2 : w.heap.size + 1 + 1 < u1.heap.size + 1 + 1 := (by omega); have lt1_u1_3 : w.heap.size + 1 + 1 + 1 < u1.heap.size + 1 := (by omega); have lt2_u1_3 : w.heap.size + 1 + 1 + 1 < u1.heap.size + 1 + 1 := (by omega); have rw_u1_0 := (hr2 (w.heap.size) (by (try simp); (try omega))).trans (show rowAt _ (w.heap.size) = _ by go_simp; rfl); have rw_u1_1 := (hr2 (w.heap.size + 1) (by (try simp); (try omega))).trans (show rowAt _ (w.heap.size + 1) = _ by go_simp; rfl); have rw_u1_2 := (hr2 (w.heap.size + 1 + 1) (by (try simp); (try omega))).trans (show rowAt _ (w.heap.size + 1 + 1) = _ by go_simp; rfl); have rw_u1_3 := (hr2 (w.heap.size + 1 + 1 + 1) (by (try simp); (try omega))).trans (show rowAt _ (w.heap.size + 1 + 1 + 1) = _ by go_simp; rfl); have HK2 := hidE hu; clear hu
  have rw_u1_0 := (hr2 (w1.heap.size) (by (try simp); (try omega))).trans (show rowAt _ (w1.heap.size) = _ by go_simp; rfl)
  have lt_u1_0 : w1.heap.size < u1.heap.size := (by have hh := (HK2.out).size; (try simp at hh); omega); have lt1_u1_0 : w1.heap.size < u1.heap.size + 1 := (by omega); have lt2_u1_0 : w1.heap.size < u1.heap.size + 1 + 1 := (by omega)
  have nn_w1_0_0 : w.heap.size ≠ w1.heap.size := (by omega); have mm_w1_0_0 : w1.heap.size ≠ w.heap.size := (by omega); have nn_w1_0_1 : w.heap.size + 1 ≠ w1.heap.size := (by omega); have mm_w1_0_1 : w1.heap.size ≠ w.heap.size + 1 := (by omega); have nn_w1_0_2 : w.heap.size + 1 + 1 ≠ w1.heap.size := (by omega); have mm_w1_0_2 : w1.heap.size ≠ w.heap.size + 1 + 1 := (by omega); have nn_w1_0_3 : w.heap.size + 1 + 1 + 1 ≠ w1.heap.size := (by omega); have mm_w1_0_3 : w1.heap.size ≠ w.heap.size + 1 + 1 + 1 := (by omega)
  simp only [IntKind.wrap_u32', Int.add_emod_emod, HNX.out]
  go_wp2_with fail
  refine wp_region_ra [0, 1, 2, 3, 4, 5, 6, 7, 8, 9, 10, 11] [] 0 (Same _) (by kernel_rfl) (by kernel_rfl) (fun u u' h k => Keeps.trans h k) (Keeps.refl _ _).drew ?_
  simp only [opsOf, List.filterMap_cons, List.filterMap_nil, List.getElem?_cons_zero, List.getElem?_cons_succ]
  repeat (refine seqV_run (v := ?_) rfl (fun u hu => ?_) ?_; rotate_left; (focus (obtain ⟨hc, hf, hr, hl, hn, hm⟩ := same_facts hu; clear hu; go_simp; first | done | with_reducible rfl)); (try simp only [Act.put, List.setIfInBounds_toArray, List.set_cons_zero, List.set_cons_succ]))
  refine seqV_nil ?_
  refine tailR_zero fun u2 hu _ => ?_
  (obtain ⟨hc3, hf3, hr3, -, -, -⟩ := same_facts hu); have lt_u2_0 : w.heap.size < u2.heap.size := (by have hh := (hu).size; (try simp at hh); omega); have lt_u2_1 : w.heap.size + 1 < u2.heap.size := (by have hh := (hu).size; (try simp at hh); omega); have lt_u2_2 : w.heap.size + 1 + 1 < u2.heap.size := (by have hh := (hu).size; (try simp at hh); omega); have lt_u2_3 : w.heap.size + 1 + 1 + 1 < u2.heap.size := (by have hh := (hu).size; (try simp at hh); omega); have lt1_u2_0 : w.heap.size < u2.heap.size + 1 := (by omega); have lt2_u2_0 : w.heap.size < u2.heap.size + 1 + 1 := (by omega); have lt1_u2_1 : w.heap.size + 1 < u2.heap.size + 1 := (by omega); have lt2_u2_1 : w.heap.size + 1 < u2.heap.size + 1 + 1 := (by omega); have lt1_u2_2 : w.heap.size + 1 + 1 < u2.heap.size + 1 := (by omega); have lt2_u2_2 : w.heap.size + 1 + 1 < u2.heap.size + 1 + 1 := (by omega); have lt1_u2_3 : w.heap.size + 1 + 1 + 1 < u2.heap.size + 1 := (by omega); have lt2_u2_3 : w.heap.size + 1 + 1 + 1 < u2.heap.size + 1 + 1 := (by omega); have rw_u2_0 := (hr3 (w.heap.size) (by (try simp); (try omega))).trans (show rowAt _ (w.heap.size) = _ by go_simp; rfl); have rw_u2_1 := (hr3 (w.heap.size + 1) (by (try simp); (try omega))).trans (show rowAt _ (w.heap.size + 1) = _ by go_simp; rfl); have rw_u2_2 := (hr3 (w.heap.size + 1 + 1) (by (try simp); (try omega))).trans (show rowAt _ (w.heap.size + 1 + 1) = _ by go_simp; rfl); have rw_u2_3 := (hr3 (w.heap.size + 1 + 1 + 1) (by (try simp); (try omega))).trans (show rowAt _ (w.heap.size + 1 + 1 + 1) = _ by go_simp; rfl); have HK3 := hidE hu; clear hu
  have rw_u2_0 := (hr3 (w1.heap.size) (by (try simp); (try omega))).trans (show rowAt _ (w1.heap.size) = _ by go_simp; rfl)
  have lt_u2_0 : w1.heap.size < u2.heap.size := (by have hh := (HK3.out).size; (try simp at hh); omega); have lt1_u2_0 : w1.heap.size < u2.heap.size + 1 := (by omega); have lt2_u2_0 : w1.heap.size < u2.heap.size + 1 + 1 := (by omega)
  go_wp2_with fail
  refine (HS.out _).mono ?_
  rintro e w4 ⟨rfl, hk⟩
  (obtain ⟨hc4, hf4, hr4, -, -, -⟩ := same_facts hk); have lt_w4_0 : w.heap.size < w4.heap.size := (by have hh := (hk).size; (try simp at hh); omega); have lt_w4_1 : w.heap.size + 1 < w4.heap.size := (by have hh := (hk).size; (try simp at hh); omega); have lt_w4_2 : w.heap.size + 1 + 1 < w4.heap.size := (by have hh := (hk).size; (try simp at hh); omega); have lt_w4_3 : w.heap.size + 1 + 1 + 1 < w4.heap.size := (by have hh := (hk).size; (try simp at hh); omega); have lt1_w4_0 : w.heap.size < w4.heap.size + 1 := (by omega); have lt2_w4_0 : w.heap.size < w4.heap.size + 1 + 1 := (by omega); have lt1_w4_1 : w.heap.size + 1 < w4.heap.size + 1 := (by omega); have lt2_w4_1 : w.heap.size + 1 < w4.heap.size + 1 + 1 := (by omega); have lt1_w4_2 : w.heap.size + 1 + 1 < w4.heap.size + 1 := (by omega); have lt2_w4_2 : w.heap.size + 1 + 1 < w4.heap.size + 1 + 1 := (by omega); have lt1_w4_3 : w.heap.size + 1 + 1 + 1 < w4.heap.size + 1 := (by omega); have lt2_w4_3 : w.heap.size + 1 + 1 + 1 < w4.heap.size + 1 + 1 := (by omega); have rw_w4_0 := (hr4 (w.heap.size) (by (try simp); (try omega))).trans (show rowAt _ (w.heap.size) = _ by go_simp; rfl); have rw_w4_1 := (hr4 (w.heap.size + 1) (by (try simp); (try omega))).trans (show rowAt _ (w.heap.size + 1) = _ by go_simp; rfl); have rw_w4_2 := (hr4 (w.heap.size + 1 + 1) (by (try simp); (try omega))).trans (show rowAt _ (w.heap.size + 1 + 1) = _ by go_simp; rfl); have rw_w4_3 := (hr4 (w.heap.size + 1 + 1 + 1) (by (try simp); (try omega))).trans (show rowAt _ (w.heap.size + 1 + 1 + 1) = _ by go_simp; rfl); have HK4 := hidE hk; clear hk
  have rw_w4_0 := (hr4 (w1.heap.size) (by (try simp); (try omega))).trans (show rowAt _ (w1.heap.size) = _ by go_simp; rfl)
  have lt_w4_0 : w1.heap.size < w4.heap.size := (by have hh := (HK4.out).size; (try simp at hh); omega); have lt1_w4_0 : w1.heap.size < w4.heap.size + 1 := (by omega); have lt2_w4_0 : w1.heap.size < w4.heap.size + 1 + 1 := (by omega)
  go_wp2_with (go_at_call 45; refine (HF.out _).mono ?_; rintro e w' ⟨rfl, rfl⟩)
  refine post_row2 rfl Try.underlying25 rfl infoS Try.underlying31 rfl infoF rfl rfl rfl (by go_simp; rfl) (by go_simp; rfl) (sa_size _) rfl ⟨by rw [HP.out]; first | done | rfl, ?_⟩
  (repeat (first | with_reducible exact Keeps.refl _ _ | (with_reducible refine Keeps.drew ?_) | (with_reducible refine Keeps.alloc ?_ _) | (with_reducible refine Keeps.setRow ?_ (fun h => absurd h (by omega)) _) | (with_reducible refine Keeps.setCell ?_ (fun h => absurd h (by simp only []; omega)) _) | (with_reducible refine Keeps.trans ?_ HK8.out) | (with_reducible refine same_then ?_ HK8.out (fun k hk => by omega)) | (with_reducible refine Keeps.trans ?_ HK7.out) | (with_reducible refine same_then ?_ HK7.out (fun k hk => by omega)) | (with_reducible refine Keeps.trans ?_ HK6.out) | (with_reducible refine same_then ?_ HK6.out (fun k hk => by omega)) | (with_reducible refine Keeps.trans ?_ HK5.out) | (with_reducible refine same_then ?_ HK5.out (fun k hk => by omega)) | (with_reducible refine Keeps.trans ?_ HK4.out) | (with_reducible refine same_then ?_ HK4.out (fun k hk => by omega)) | (with_reducible refine Keeps.trans ?_ HK3.out) | (with_reducible refine same_then ?_ HK3.out (fun k hk => by omega)) | (with_reducible refine Keeps.trans ?_ HK2.out) | (with_reducible refine same_then ?_ HK2.out (fun k hk => by omega)) | (with_reducible refine Keeps.trans ?_ HK1.out) | (with_reducible refine same_then ?_ HK1.out (fun k hk => by omega))))
set_option maxHeartbeats 2000000 in
set_option maxRecDepth 100000 in
theorem rdo_30_0 (s : St) (a b imm v : Int) (hs : s.Ok) (hi : (⟨30, a, b, imm⟩ : In).Ok) (_v0 : 0 ≤ v) (_v1 : v < 4294967296) (hm : mayB ⟨30, a, b, imm⟩ false = true) (hz : s.R b.toNat = 0) (w : World) :
    Calls Try.prog 18 #[.agg (stA s), .agg #[.int .u8 30, .int .u8 a, .int .u8 b, .int .i32 imm], .int .u32 v] w fun e w' => e = .returned (.tuple #[.agg (stA (doL s ⟨30, a, b, imm⟩ v).1), .agg (flA (doL s ⟨30, a, b, imm⟩ v).2)]) ∧ Same w w' := by
  have HM : Hid (∀ w, _) := hidE (fun w => may2_any _ false hi w)
  obtain ⟨a1, b1⟩ := may_regs hm
  simp only at a1 b1
  have a0 := hi.a0
  have b0 := hi.b0
  have o0 := hi.o0
  have o1 := hi.o1
  simp only at a0 b0 o0 o1
  have h8 : b.toNat < 8 := by omega
  have h9 : a.toNat < 8 := by omega
  have p0 := hs.r0 a.toNat
  have p1 := hs.r1 a.toNat
  have r0 := hs.r0 b.toNat
  have r1 := hs.r1 b.toNat
  have s0 := hs.ps0
  have s1 := hs.ps1
  have HO := hidE (fun w => of2_any 30 false (by omega) (by omega) w)
  rw [of2_form 30 false (by omega) (by omega)] at HO
  have hnx : (s.pc + (formL 30 false).n) % 4294967296 = nextL s ⟨30, a, b, imm⟩ := rfl
  have nx0 : 0 ≤ nextL s ⟨30, a, b, imm⟩ := Int.emod_nonneg _ (by omega)
  have nx1 : nextL s ⟨30, a, b, imm⟩ < 4294967296 := Int.emod_lt_of_pos _ (by omega)
  obtain ⟨f0, f6⟩ : 0 ≤ (formL 30 false).n ∧ (formL 30 false).n ≤ 6 := form_n 30
  have HP : Hid (doL s ⟨30, a, b, imm⟩ v = (s, ⟨3, 0⟩)) := hidE (by
    rw [doL_plain s _ v hm (by simp) (no_fault (by simp))]
    show partedL (s.setPc (nextL s ⟨30, a, b, imm⟩)) ⟨30, a, b, imm⟩ s = _
    unfold partedL
    rw [if_pos (show (s.setPc (nextL s ⟨30, a, b, imm⟩)).R b.toNat = 0 from hz)])
  have HS : Hid (∀ w, Calls Try.prog 44 #[.int .u8 30, .int .u32 (s.R a.toNat), .int .u32 (s.R b.toNat)] w fun e w' => e = .returned (.tuple #[.int .u32 0, .int .u32 0, .bool false]) ∧ Same w w') := hidE (fun w => by rw [hz]; exact made_30_0 _ w)
  clear hz
  rw [hm] at HM
  simp only [inA] at HM
  generalize nextL s ⟨30, a, b, imm⟩ = N at *
  generalize (formL 30 false).n = F at *
  generalize decide ((formL 30 false).a = 1) = fa at *
  generalize decide ((formL 30 false).b = 1) = fb at *
  generalize (formL 30 false).m = fm at *
  generalize decide ((formL 30 false).s = 1) = fs at *
  have HNX := hidE hnx
  clear hm hi hnx
  go_enter Try.func18, Try.ntmps18
  go_wp2_with fail
  refine (HM.out _).mono ?_
  rintro e w1 ⟨rfl, hk⟩
  (obtain ⟨hc1, hf1, hr1, -, -, -⟩ := same_facts hk); have lt_w1_0 : w.heap.size < w1.heap.size := (by have hh := (hk).size; (try simp at hh); omega); have lt_w1_1 : w.heap.size + 1 < w1.heap.size := (by have hh := (hk).size; (try simp at hh); omega); have lt_w1_2 : w.heap.size + 1 + 1 < w1.heap.size := (by have hh := (hk).size; (try simp at hh); omega); have lt_w1_3 : w.heap.size + 1 + 1 + 1 < w1.heap.size := (by have hh := (hk).size; (try simp at hh); omega); have lt1_w1_0 : w.heap.size < w1.heap.size + 1 := (by omega); have lt2_w1_0 : w.heap.size < w1.heap.size + 1 + 1 := (by omega); have lt1_w1_1 : w.heap.size + 1 < w1.heap.size + 1 := (by omega); have lt2_w1_1 : w.heap.size + 1 < w1.heap.size + 1 + 1 := (by omega); have lt1_w1_2 : w.heap.size + 1 + 1 < w1.heap.size + 1 := (by omega); have lt2_w1_2 : w.heap.size + 1 + 1 < w1.heap.size + 1 + 1 := (by omega); have lt1_w1_3 : w.heap.size + 1 + 1 + 1 < w1.heap.size + 1 := (by omega); have lt2_w1_3 : w.heap.size + 1 + 1 + 1 < w1.heap.size + 1 + 1 := (by omega); have rw_w1_0 := (hr1 (w.heap.size) (by (try simp); (try omega))).trans (show rowAt _ (w.heap.size) = _ by go_simp; rfl); have rw_w1_1 := (hr1 (w.heap.size + 1) (by (try simp); (try omega))).trans (show rowAt _ (w.heap.size + 1) = _ by go_simp; rfl); have rw_w1_2 := (hr1 (w.heap.size + 1 + 1) (by (try simp); (try omega))).trans (show rowAt _ (w.heap.size + 1 + 1) = _ by go_simp; rfl); have rw_w1_3 := (hr1 (w.heap.size + 1 + 1 + 1) (by (try simp); (try omega))).trans (show rowAt _ (w.heap.size + 1 + 1 + 1) = _ by go_simp; rfl); have HK1 := hidE hk; clear hk
  go_wp2_with fail
  refine wp_region_ra [0, 1, 2, 3, 4, 5, 6, 7, 8] [] 0 (Same _) (by kernel_rfl) (by kernel_rfl) (fun u u' h k => Keeps.trans h k) (Keeps.refl _ _).drew ?_
  simp only [opsOf, List.filterMap_cons, List.filterMap_nil, List.getElem?_cons_zero, List.getElem?_cons_succ]
  repeat (refine seqV_run (v := ?_) rfl (fun u hu => ?_) ?_; rotate_left; (focus (obtain ⟨hc, hf, hr, hl, hn, hm⟩ := same_facts hu; clear hu; go_simp; first | done | with_reducible rfl)); (try simp only [Act.put, List.setIfInBounds_toArray, List.set_cons_zero, List.set_cons_succ]))
  refine seqV_call (f := 43) (args := #[.int .u8 30, .bool false]) (v := .agg #[.int .i64 F, .bool fa, .bool fb, .int .i64 fm, .bool fs]) rfl (fun u hu => ?_) (fun u _ => HO.out u) ?_
  · (obtain ⟨hc, hf, hr, hl, hn, hm⟩ := same_facts hu; clear hu; go_simp)
  simp only [Act.put, List.setIfInBounds_toArray, List.set_cons_zero, List.set_cons_succ]
  repeat (refine seqV_run (v := ?_) rfl (fun u hu => ?_) ?_; rotate_left; (focus (obtain ⟨hc, hf, hr, hl, hn, hm⟩ := same_facts hu; clear hu; go_simp; first | done | with_reducible rfl)); (try simp only [Act.put, List.setIfInBounds_toArray, List.set_cons_zero, List.set_cons_succ]))
  refine seqV_nil ?_
  refine tailR_zero fun u1 hu _ => ?_
  (obtain ⟨hc2, hf2, hr2, -, -, -⟩ := same_facts hu); have lt_u1_0 : w.heap.size < u1.heap.size := (by have hh := (hu).size; (try simp at hh); omega); have lt_u1_1 : w.heap.size + 1 < u1.heap.size := (by have hh := (hu).size; (try simp at hh); omega); have lt_u1_2 : w.heap.size + 1 + 1 < u1.heap.size := (by have hh := (hu).size; (try simp at hh); omega); have lt_u1_3 : w.heap.size + 1 + 1 + 1 < u1.heap.size := (by have hh := (hu).size; (try simp at hh); omega); have lt1_u1_0 : w.heap.size < u1.heap.size + 1 := (by omega); have lt2_u1_0 : w.heap.size < u1.heap.size + 1 + 1 := (by omega); have lt1_u1_1 : w.heap.size + 1 < u1.heap.size + 1 := (by omega); have lt2_u1_1 : w.heap.size + 1 < u1.heap.size + 1 + 1 := (by omega); have lt1_u1_2 : w.heap.size + 1 + 1 < u1.heap.size + 1 := (by omega); have lt2_u1_2 : w.heap.size + 1 + 1 < u1.heap.size + 1 + 1 := (by omega); have lt1_u1_3 : w.heap.size + 1 + 1 + 1 < u1.heap.size + 1 := (by omega); have lt2_u1_3 : w.heap.size + 1 + 1 + 1 < u1.heap.size + 1 + 1 := (by omega); have rw_u1_0 := (hr2 (w.heap.size) (by (try simp); (try omega))).trans (show rowAt _ (w.heap.size) = _ by go_simp; rfl); have rw_u1_1 := (hr2 (w.heap.size + 1) (by (try simp); (try omega))).trans (show rowAt _ (w.heap.size + 1) = _ by go_simp; rfl); have rw_u1_2 := (hr2 (w.heap.size + 1 + 1) (by (try simp); (try omega))).trans (show rowAt _ (w.heap.size + 1 + 1) = _ by go_simp; rfl); have rw_u1_3 := (hr2 (w.heap.size + 1 + 1 + 1) (by (try simp); (try omega))).trans (show rowAt _ (w.heap.size + 1 + 1 + 1) = _ by go_simp; rfl); have HK2 := hidE hu; clear hu
  have rw_u1_0 := (hr2 (w1.heap.size) (by (try simp); (try omega))).trans (show rowAt _ (w1.heap.size) = _ by go_simp; rfl)
  have lt_u1_0 : w1.heap.size < u1.heap.size := (by have hh := (HK2.out).size; (try simp at hh); omega); have lt1_u1_0 : w1.heap.size < u1.heap.size + 1 := (by omega); have lt2_u1_0 : w1.heap.size < u1.heap.size + 1 + 1 := (by omega)
  have nn_w1_0_0 : w.heap.size ≠ w1.heap.size := (by omega); have mm_w1_0_0 : w1.heap.size ≠ w.heap.size := (by omega); have nn_w1_0_1 : w.heap.size + 1 ≠ w1.heap.size := (by omega); have mm_w1_0_1 : w1.heap.size ≠ w.heap.size + 1 := (by omega); have nn_w1_0_2 : w.heap.size + 1 + 1 ≠ w1.heap.size := (by omega); have mm_w1_0_2 : w1.heap.size ≠ w.heap.size + 1 + 1 := (by omega); have nn_w1_0_3 : w.heap.size + 1 + 1 + 1 ≠ w1.heap.size := (by omega); have mm_w1_0_3 : w1.heap.size ≠ w.heap.size + 1 + 1 + 1 := (by omega)
  simp only [IntKind.wrap_u32', Int.add_emod_emod, HNX.out]
  go_wp2_with fail
  refine wp_region_ra [0, 1, 2, 3, 4, 5, 6, 7, 8, 9, 10, 11] [] 0 (Same _) (by kernel_rfl) (by kernel_rfl) (fun u u' h k => Keeps.trans h k) (Keeps.refl _ _).drew ?_
  simp only [opsOf, List.filterMap_cons, List.filterMap_nil, List.getElem?_cons_zero, List.getElem?_cons_succ]
  repeat (refine seqV_run (v := ?_) rfl (fun u hu => ?_) ?_; rotate_left; (focus (obtain ⟨hc, hf, hr, hl, hn, hm⟩ := same_facts hu; clear hu; go_simp; first | done | with_reducible rfl)); (try simp only [Act.put, List.setIfInBounds_toArray, List.set_cons_zero, List.set_cons_succ]))
  refine seqV_nil ?_
  refine tailR_zero fun u2 hu _ => ?_
  (obtain ⟨hc3, hf3, hr3, -, -, -⟩ := same_facts hu); have lt_u2_0 : w.heap.size < u2.heap.size := (by have hh := (hu).size; (try simp at hh); omega); have lt_u2_1 : w.heap.size + 1 < u2.heap.size := (by have hh := (hu).size; (try simp at hh); omega); have lt_u2_2 : w.heap.size + 1 + 1 < u2.heap.size := (by have hh := (hu).size; (try simp at hh); omega); have lt_u2_3 : w.heap.size + 1 + 1 + 1 < u2.heap.size := (by have hh := (hu).size; (try simp at hh); omega); have lt1_u2_0 : w.heap.size < u2.heap.size + 1 := (by omega); have lt2_u2_0 : w.heap.size < u2.heap.size + 1 + 1 := (by omega); have lt1_u2_1 : w.heap.size + 1 < u2.heap.size + 1 := (by omega); have lt2_u2_1 : w.heap.size + 1 < u2.heap.size + 1 + 1 := (by omega); have lt1_u2_2 : w.heap.size + 1 + 1 < u2.heap.size + 1 := (by omega); have lt2_u2_2 : w.heap.size + 1 + 1 < u2.heap.size + 1 + 1 := (by omega); have lt1_u2_3 : w.heap.size + 1 + 1 + 1 < u2.heap.size + 1 := (by omega); have lt2_u2_3 : w.heap.size + 1 + 1 + 1 < u2.heap.size + 1 + 1 := (by omega); have rw_u2_0 := (hr3 (w.heap.size) (by (try simp); (try omega))).trans (show rowAt _ (w.heap.size) = _ by go_simp; rfl); have rw_u2_1 := (hr3 (w.heap.size + 1) (by (try simp); (try omega))).trans (show rowAt _ (w.heap.size + 1) = _ by go_simp; rfl); have rw_u2_2 := (hr3 (w.heap.size + 1 + 1) (by (try simp); (try omega))).trans (show rowAt _ (w.heap.size + 1 + 1) = _ by go_simp; rfl); have rw_u2_3 := (hr3 (w.heap.size + 1 + 1 + 1) (by (try simp); (try omega))).trans (show rowAt _ (w.heap.size + 1 + 1 + 1) = _ by go_simp; rfl); have HK3 := hidE hu; clear hu
  have rw_u2_0 := (hr3 (w1.heap.size) (by (try simp); (try omega))).trans (show rowAt _ (w1.heap.size) = _ by go_simp; rfl)
  have lt_u2_0 : w1.heap.size < u2.heap.size := (by have hh := (HK3.out).size; (try simp at hh); omega); have lt1_u2_0 : w1.heap.size < u2.heap.size + 1 := (by omega); have lt2_u2_0 : w1.heap.size < u2.heap.size + 1 + 1 := (by omega)
  go_wp2_with fail
  refine (HS.out _).mono ?_
  rintro e w4 ⟨rfl, hk⟩
  (obtain ⟨hc4, hf4, hr4, -, -, -⟩ := same_facts hk); have lt_w4_0 : w.heap.size < w4.heap.size := (by have hh := (hk).size; (try simp at hh); omega); have lt_w4_1 : w.heap.size + 1 < w4.heap.size := (by have hh := (hk).size; (try simp at hh); omega); have lt_w4_2 : w.heap.size + 1 + 1 < w4.heap.size := (by have hh := (hk).size; (try simp at hh); omega); have lt_w4_3 : w.heap.size + 1 + 1 + 1 < w4.heap.size := (by have hh := (hk).size; (try simp at hh); omega); have lt1_w4_0 : w.heap.size < w4.heap.size + 1 := (by omega); have lt2_w4_0 : w.heap.size < w4.heap.size + 1 + 1 := (by omega); have lt1_w4_1 : w.heap.size + 1 < w4.heap.size + 1 := (by omega); have lt2_w4_1 : w.heap.size + 1 < w4.heap.size + 1 + 1 := (by omega); have lt1_w4_2 : w.heap.size + 1 + 1 < w4.heap.size + 1 := (by omega); have lt2_w4_2 : w.heap.size + 1 + 1 < w4.heap.size + 1 + 1 := (by omega); have lt1_w4_3 : w.heap.size + 1 + 1 + 1 < w4.heap.size + 1 := (by omega); have lt2_w4_3 : w.heap.size + 1 + 1 + 1 < w4.heap.size + 1 + 1 := (by omega); have rw_w4_0 := (hr4 (w.heap.size) (by (try simp); (try omega))).trans (show rowAt _ (w.heap.size) = _ by go_simp; rfl); have rw_w4_1 := (hr4 (w.heap.size + 1) (by (try simp); (try omega))).trans (show rowAt _ (w.heap.size + 1) = _ by go_simp; rfl); have rw_w4_2 := (hr4 (w.heap.size + 1 + 1) (by (try simp); (try omega))).trans (show rowAt _ (w.heap.size + 1 + 1) = _ by go_simp; rfl); have rw_w4_3 := (hr4 (w.heap.size + 1 + 1 + 1) (by (try simp); (try omega))).trans (show rowAt _ (w.heap.size + 1 + 1 + 1) = _ by go_simp; rfl); have HK4 := hidE hk; clear hk
  have rw_w4_0 := (hr4 (w1.heap.size) (by (try simp); (try omega))).trans (show rowAt _ (w1.heap.size) = _ by go_simp; rfl)
  have lt_w4_0 : w1.heap.size < w4.heap.size := (by have hh := (HK4.out).size; (try simp at hh); omega); have lt1_w4_0 : w1.heap.size < w4.heap.size + 1 := (by omega); have lt2_w4_0 : w1.heap.size < w4.heap.size + 1 + 1 := (by omega)
  go_wp2
  refine post_row2 rfl Try.underlying25 rfl infoS Try.underlying31 rfl infoF rfl rfl rfl (by go_simp; rfl) (by go_simp; rfl) (sa_size _) rfl ⟨by rw [HP.out]; first | done | rfl, ?_⟩
  (repeat (first | with_reducible exact Keeps.refl _ _ | (with_reducible refine Keeps.drew ?_) | (with_reducible refine Keeps.alloc ?_ _) | (with_reducible refine Keeps.setRow ?_ (fun h => absurd h (by omega)) _) | (with_reducible refine Keeps.setCell ?_ (fun h => absurd h (by simp only []; omega)) _) | (with_reducible refine Keeps.trans ?_ HK8.out) | (with_reducible refine same_then ?_ HK8.out (fun k hk => by omega)) | (with_reducible refine Keeps.trans ?_ HK7.out) | (with_reducible refine same_then ?_ HK7.out (fun k hk => by omega)) | (with_reducible refine Keeps.trans ?_ HK6.out) | (with_reducible refine same_then ?_ HK6.out (fun k hk => by omega)) | (with_reducible refine Keeps.trans ?_ HK5.out) | (with_reducible refine same_then ?_ HK5.out (fun k hk => by omega)) | (with_reducible refine Keeps.trans ?_ HK4.out) | (with_reducible refine same_then ?_ HK4.out (fun k hk => by omega)) | (with_reducible refine Keeps.trans ?_ HK3.out) | (with_reducible refine same_then ?_ HK3.out (fun k hk => by omega)) | (with_reducible refine Keeps.trans ?_ HK2.out) | (with_reducible refine same_then ?_ HK2.out (fun k hk => by omega)) | (with_reducible refine Keeps.trans ?_ HK1.out) | (with_reducible refine same_then ?_ HK1.out (fun k hk => by omega))))
set_option maxHeartbeats 2000000 in
set_option maxRecDepth 100000 in
theorem rdo_30 (s : St) (a b imm v : Int) (hs : s.Ok) (hi : (⟨30, a, b, imm⟩ : In).Ok) (_v0 : 0 ≤ v) (_v1 : v < 4294967296) (hm : mayB ⟨30, a, b, imm⟩ false = true) (hz : s.R b.toNat ≠ 0) (w : World) :
    Calls Try.prog 18 #[.agg (stA s), .agg #[.int .u8 30, .int .u8 a, .int .u8 b, .int .i32 imm], .int .u32 v] w fun e w' => e = .returned (.tuple #[.agg (stA (doL s ⟨30, a, b, imm⟩ v).1), .agg (flA (doL s ⟨30, a, b, imm⟩ v).2)]) ∧ Same w w' := by
  have HM : Hid (∀ w, _) := hidE (fun w => may2_any _ false hi w)
  obtain ⟨a1, b1⟩ := may_regs hm
  simp only at a1 b1
  have a0 := hi.a0
  have b0 := hi.b0
  have o0 := hi.o0
  have o1 := hi.o1
  simp only at a0 b0 o0 o1
  have h8 : b.toNat < 8 := by omega
  have h9 : a.toNat < 8 := by omega
  have p0 := hs.r0 a.toNat
  have p1 := hs.r1 a.toNat
  have r0 := hs.r0 b.toNat
  have r1 := hs.r1 b.toNat
  have s0 := hs.ps0
  have s1 := hs.ps1
  have HO := hidE (fun w => of2_any 30 false (by omega) (by omega) w)
  rw [of2_form 30 false (by omega) (by omega)] at HO
  have hnx : (s.pc + (formL 30 false).n) % 4294967296 = nextL s ⟨30, a, b, imm⟩ := rfl
  have nx0 : 0 ≤ nextL s ⟨30, a, b, imm⟩ := Int.emod_nonneg _ (by omega)
  have nx1 : nextL s ⟨30, a, b, imm⟩ < 4294967296 := Int.emod_lt_of_pos _ (by omega)
  obtain ⟨f0, f6⟩ : 0 ≤ (formL 30 false).n ∧ (formL 30 false).n ≤ 6 := form_n 30
  have HP : Hid (doL s ⟨30, a, b, imm⟩ v = (turnS ((s.setPc (nextL s ⟨30, a, b, imm⟩)).setR a.toNat (s.R a.toNat % s.R b.toNat)) (zn (s.R a.toNat % s.R b.toNat)), fl0)) := hidE (by
    rw [doL_plain s _ v hm (by simp) (no_fault (by simp))]
    show partedL (s.setPc (nextL s ⟨30, a, b, imm⟩)) ⟨30, a, b, imm⟩ s = _
    unfold partedL
    rw [if_neg (show ¬ (s.setPc (nextL s ⟨30, a, b, imm⟩)).R b.toNat = 0 from hz)]
    rfl)
  have HF := hidE (fun w => flagged_any s.ps (zn (s.R a.toNat % s.R b.toNat)) s0 s1 (znf8 _) w)
  have HS := hidE (fun w => made_30 (s.R a.toNat) (s.R b.toNat) p0 p1 (by omega) r1 w)
  generalize (s.R a.toNat % s.R b.toNat) = Q at HF HS HP
  clear hz
  rw [hm] at HM
  simp only [inA] at HM
  generalize nextL s ⟨30, a, b, imm⟩ = N at *
  generalize (formL 30 false).n = F at *
  generalize decide ((formL 30 false).a = 1) = fa at *
  generalize decide ((formL 30 false).b = 1) = fb at *
  generalize (formL 30 false).m = fm at *
  generalize decide ((formL 30 false).s = 1) = fs at *
  have HNX := hidE hnx
  clear hm hi hnx
  go_enter Try.func18, Try.ntmps18
  go_wp2_with fail
  refine (HM.out _).mono ?_
  rintro e w1 ⟨rfl, hk⟩
  (obtain ⟨hc1, hf1, hr1, -, -, -⟩ := same_facts hk); have lt_w1_0 : w.heap.size < w1.heap.size := (by have hh := (hk).size; (try simp at hh); omega); have lt_w1_1 : w.heap.size + 1 < w1.heap.size := (by have hh := (hk).size; (try simp at hh); omega); have lt_w1_2 : w.heap.size + 1 + 1 < w1.heap.size := (by have hh := (hk).size; (try simp at hh); omega); have lt_w1_3 : w.heap.size + 1 + 1 + 1 < w1.heap.size := (by have hh := (hk).size; (try simp at hh); omega); have lt1_w1_0 : w.heap.size < w1.heap.size + 1 := (by omega); have lt2_w1_0 : w.heap.size < w1.heap.size + 1 + 1 := (by omega); have lt1_w1_1 : w.heap.size + 1 < w1.heap.size + 1 := (by omega); have lt2_w1_1 : w.heap.size + 1 < w1.heap.size + 1 + 1 := (by omega); have lt1_w1_2 : w.heap.size + 1 + 1 < w1.heap.size + 1 := (by omega); have lt2_w1_2 : w.heap.size + 1 + 1 < w1.heap.size + 1 + 1 := (by omega); have lt1_w1_3 : w.heap.size + 1 + 1 + 1 < w1.heap.size + 1 := (by omega); have lt2_w1_3 : w.heap.size + 1 + 1 + 1 < w1.heap.size + 1 + 1 := (by omega); have rw_w1_0 := (hr1 (w.heap.size) (by (try simp); (try omega))).trans (show rowAt _ (w.heap.size) = _ by go_simp; rfl); have rw_w1_1 := (hr1 (w.heap.size + 1) (by (try simp); (try omega))).trans (show rowAt _ (w.heap.size + 1) = _ by go_simp; rfl); have rw_w1_2 := (hr1 (w.heap.size + 1 + 1) (by (try simp); (try omega))).trans (show rowAt _ (w.heap.size + 1 + 1) = _ by go_simp; rfl); have rw_w1_3 := (hr1 (w.heap.size + 1 + 1 + 1) (by (try simp); (try omega))).trans (show rowAt _ (w.heap.size + 1 + 1 + 1) = _ by go_simp; rfl); have HK1 := hidE hk; clear hk
  go_wp2_with fail
  refine wp_region_ra [0, 1, 2, 3, 4, 5, 6, 7, 8] [] 0 (Same _) (by kernel_rfl) (by kernel_rfl) (fun u u' h k => Keeps.trans h k) (Keeps.refl _ _).drew ?_
  simp only [opsOf, List.filterMap_cons, List.filterMap_nil, List.getElem?_cons_zero, List.getElem?_cons_succ]
  repeat (refine seqV_run (v := ?_) rfl (fun u hu => ?_) ?_; rotate_left; (focus (obtain ⟨hc, hf, hr, hl, hn, hm⟩ := same_facts hu; clear hu; go_simp; first | done | with_reducible rfl)); (try simp only [Act.put, List.setIfInBounds_toArray, List.set_cons_zero, List.set_cons_succ]))
  refine seqV_call (f := 43) (args := #[.int .u8 30, .bool false]) (v := .agg #[.int .i64 F, .bool fa, .bool fb, .int .i64 fm, .bool fs]) rfl (fun u hu => ?_) (fun u _ => HO.out u) ?_
  · (obtain ⟨hc, hf, hr, hl, hn, hm⟩ := same_facts hu; clear hu; go_simp)
  simp only [Act.put, List.setIfInBounds_toArray, List.set_cons_zero, List.set_cons_succ]
  repeat (refine seqV_run (v := ?_) rfl (fun u hu => ?_) ?_; rotate_left; (focus (obtain ⟨hc, hf, hr, hl, hn, hm⟩ := same_facts hu; clear hu; go_simp; first | done | with_reducible rfl)); (try simp only [Act.put, List.setIfInBounds_toArray, List.set_cons_zero, List.set_cons_succ]))
  refine seqV_nil ?_
  refine tailR_zero fun u1 hu _ => ?_
  (obtain ⟨hc2, hf2, hr2, -, -, -⟩ := same_facts hu); have lt_u1_0 : w.heap.size < u1.heap.size := (by have hh := (hu).size; (try simp at hh); omega); have lt_u1_1 : w.heap.size + 1 < u1.heap.size := (by have hh := (hu).size; (try simp at hh); omega); have lt_u1_2 : w.heap.size + 1 + 1 < u1.heap.size := (by have hh := (hu).size; (try simp at hh); omega); have lt_u1_3 : w.heap.size + 1 + 1 + 1 < u1.heap.size := (by have hh := (hu).size; (try simp at hh); omega); have lt1_u1_0 : w.heap.size < u1.heap.size + 1 := (by omega); have lt2_u1_0 : w.heap.size < u1.heap.size + 1 + 1 := (by omega); have lt1_u1_1 : w.heap.size + 1 < u1.heap.size + 1 := (by omega); have lt2_u1_1 : w.heap.size + 1 < u1.heap.size + 1 + 1 := (by omega); have lt1_u1_2 : w.heap.size + 1 + 1 < u1.heap.size + 1 := (by omega); have lt2_u1_2 : w.heap.size + 1 + 1 < u1.heap.size + 1 + 1 := (by omega); have lt1_u1_3 : w.heap.size + 1 + 1 + 1 < u1.heap.size + 1 := (by omega); have lt2_u1_3 : w.heap.size + 1 + 1 + 1 < u1.heap.size + 1 + 1 := (by omega); have rw_u1_0 := (hr2 (w.heap.size) (by (try simp); (try omega))).trans (show rowAt _ (w.heap.size) = _ by go_simp; rfl); have rw_u1_1 := (hr2 (w.heap.size + 1) (by (try simp); (try omega))).trans (show rowAt _ (w.heap.size + 1) = _ by go_simp; rfl); have rw_u1_2 := (hr2 (w.heap.size + 1 + 1) (by (try simp); (try omega))).trans (show rowAt _ (w.heap.size + 1 + 1) = _ by go_simp; rfl); have rw_u1_3 := (hr2 (w.heap.size + 1 + 1 + 1) (by (try simp); (try omega))).trans (show rowAt _ (w.heap.size + 1 + 1 + 1) = _ by go_simp; rfl); have HK2 := hidE hu; clear hu
  have rw_u1_0 := (hr2 (w1.heap.size) (by (try simp); (try omega))).trans (show rowAt _ (w1.heap.size) = _ by go_simp; rfl)
  have lt_u1_0 : w1.heap.size < u1.heap.size := (by have hh := (HK2.out).size; (try simp at hh); omega); have lt1_u1_0 : w1.heap.size < u1.heap.size + 1 := (by omega); have lt2_u1_0 : w1.heap.size < u1.heap.size + 1 + 1 := (by omega)
  have nn_w1_0_0 : w.heap.size ≠ w1.heap.size := (by omega); have mm_w1_0_0 : w1.heap.size ≠ w.heap.size := (by omega); have nn_w1_0_1 : w.heap.size + 1 ≠ w1.heap.size := (by omega); have mm_w1_0_1 : w1.heap.size ≠ w.heap.size + 1 := (by omega); have nn_w1_0_2 : w.heap.size + 1 + 1 ≠ w1.heap.size := (by omega); have mm_w1_0_2 : w1.heap.size ≠ w.heap.size + 1 + 1 := (by omega); have nn_w1_0_3 : w.heap.size + 1 + 1 + 1 ≠ w1.heap.size := (by omega); have mm_w1_0_3 : w1.heap.size ≠ w.heap.size + 1 + 1 + 1 := (by omega)
  simp only [IntKind.wrap_u32', Int.add_emod_emod, HNX.out]
  go_wp2_with fail
  refine wp_region_ra [0, 1, 2, 3, 4, 5, 6, 7, 8, 9, 10, 11] [] 0 (Same _) (by kernel_rfl) (by kernel_rfl) (fun u u' h k => Keeps.trans h k) (Keeps.refl _ _).drew ?_
  simp only [opsOf, List.filterMap_cons, List.filterMap_nil, List.getElem?_cons_zero, List.getElem?_cons_succ]
  repeat (refine seqV_run (v := ?_) rfl (fun u hu => ?_) ?_; rotate_left; (focus (obtain ⟨hc, hf, hr, hl, hn, hm⟩ := same_facts hu; clear hu; go_simp; first | done | with_reducible rfl)); (try simp only [Act.put, List.setIfInBounds_toArray, List.set_cons_zero, List.set_cons_succ]))
  refine seqV_nil ?_
  refine tailR_zero fun u2 hu _ => ?_
  (obtain ⟨hc3, hf3, hr3, -, -, -⟩ := same_facts hu); have lt_u2_0 : w.heap.size < u2.heap.size := (by have hh := (hu).size; (try simp at hh); omega); have lt_u2_1 : w.heap.size + 1 < u2.heap.size := (by have hh := (hu).size; (try simp at hh); omega); have lt_u2_2 : w.heap.size + 1 + 1 < u2.heap.size := (by have hh := (hu).size; (try simp at hh); omega); have lt_u2_3 : w.heap.size + 1 + 1 + 1 < u2.heap.size := (by have hh := (hu).size; (try simp at hh); omega); have lt1_u2_0 : w.heap.size < u2.heap.size + 1 := (by omega); have lt2_u2_0 : w.heap.size < u2.heap.size + 1 + 1 := (by omega); have lt1_u2_1 : w.heap.size + 1 < u2.heap.size + 1 := (by omega); have lt2_u2_1 : w.heap.size + 1 < u2.heap.size + 1 + 1 := (by omega); have lt1_u2_2 : w.heap.size + 1 + 1 < u2.heap.size + 1 := (by omega); have lt2_u2_2 : w.heap.size + 1 + 1 < u2.heap.size + 1 + 1 := (by omega); have lt1_u2_3 : w.heap.size + 1 + 1 + 1 < u2.heap.size + 1 := (by omega); have lt2_u2_3 : w.heap.size + 1 + 1 + 1 < u2.heap.size + 1 + 1 := (by omega); have rw_u2_0 := (hr3 (w.heap.size) (by (try simp); (try omega))).trans (show rowAt _ (w.heap.size) = _ by go_simp; rfl); have rw_u2_1 := (hr3 (w.heap.size + 1) (by (try simp); (try omega))).trans (show rowAt _ (w.heap.size + 1) = _ by go_simp; rfl); have rw_u2_2 := (hr3 (w.heap.size + 1 + 1) (by (try simp); (try omega))).trans (show rowAt _ (w.heap.size + 1 + 1) = _ by go_simp; rfl); have rw_u2_3 := (hr3 (w.heap.size + 1 + 1 + 1) (by (try simp); (try omega))).trans (show rowAt _ (w.heap.size + 1 + 1 + 1) = _ by go_simp; rfl); have HK3 := hidE hu; clear hu
  have rw_u2_0 := (hr3 (w1.heap.size) (by (try simp); (try omega))).trans (show rowAt _ (w1.heap.size) = _ by go_simp; rfl)
  have lt_u2_0 : w1.heap.size < u2.heap.size := (by have hh := (HK3.out).size; (try simp at hh); omega); have lt1_u2_0 : w1.heap.size < u2.heap.size + 1 := (by omega); have lt2_u2_0 : w1.heap.size < u2.heap.size + 1 + 1 := (by omega)
  go_wp2_with fail
  refine (HS.out _).mono ?_
  rintro e w4 ⟨rfl, hk⟩
  (obtain ⟨hc4, hf4, hr4, -, -, -⟩ := same_facts hk); have lt_w4_0 : w.heap.size < w4.heap.size := (by have hh := (hk).size; (try simp at hh); omega); have lt_w4_1 : w.heap.size + 1 < w4.heap.size := (by have hh := (hk).size; (try simp at hh); omega); have lt_w4_2 : w.heap.size + 1 + 1 < w4.heap.size := (by have hh := (hk).size; (try simp at hh); omega); have lt_w4_3 : w.heap.size + 1 + 1 + 1 < w4.heap.size := (by have hh := (hk).size; (try simp at hh); omega); have lt1_w4_0 : w.heap.size < w4.heap.size + 1 := (by omega); have lt2_w4_0 : w.heap.size < w4.heap.size + 1 + 1 := (by omega); have lt1_w4_1 : w.heap.size + 1 < w4.heap.size + 1 := (by omega); have lt2_w4_1 : w.heap.size + 1 < w4.heap.size + 1 + 1 := (by omega); have lt1_w4_2 : w.heap.size + 1 + 1 < w4.heap.size + 1 := (by omega); have lt2_w4_2 : w.heap.size + 1 + 1 < w4.heap.size + 1 + 1 := (by omega); have lt1_w4_3 : w.heap.size + 1 + 1 + 1 < w4.heap.size + 1 := (by omega); have lt2_w4_3 : w.heap.size + 1 + 1 + 1 < w4.heap.size + 1 + 1 := (by omega); have rw_w4_0 := (hr4 (w.heap.size) (by (try simp); (try omega))).trans (show rowAt _ (w.heap.size) = _ by go_simp; rfl); have rw_w4_1 := (hr4 (w.heap.size + 1) (by (try simp); (try omega))).trans (show rowAt _ (w.heap.size + 1) = _ by go_simp; rfl); have rw_w4_2 := (hr4 (w.heap.size + 1 + 1) (by (try simp); (try omega))).trans (show rowAt _ (w.heap.size + 1 + 1) = _ by go_simp; rfl); have rw_w4_3 := (hr4 (w.heap.size + 1 + 1 + 1) (by (try simp); (try omega))).trans (show rowAt _ (w.heap.size + 1 + 1 + 1) = _ by go_simp; rfl); have HK4 := hidE hk; clear hk
  have rw_w4_0 := (hr4 (w1.heap.size) (by (try simp); (try omega))).trans (show rowAt _ (w1.heap.size) = _ by go_simp; rfl)
  have lt_w4_0 : w1.heap.size < w4.heap.size := (by have hh := (HK4.out).size; (try simp at hh); omega); have lt1_w4_0 : w1.heap.size < w4.heap.size + 1 := (by omega); have lt2_w4_0 : w1.heap.size < w4.heap.size + 1 + 1 := (by omega)
  go_wp2_with (go_at_call 45; refine (HF.out _).mono ?_; rintro e w' ⟨rfl, rfl⟩)
  refine post_row2 rfl Try.underlying25 rfl infoS Try.underlying31 rfl infoF rfl rfl rfl (by go_simp; rfl) (by go_simp; rfl) (sa_size _) rfl ⟨by rw [HP.out]; first | done | rfl, ?_⟩
  (repeat (first | with_reducible exact Keeps.refl _ _ | (with_reducible refine Keeps.drew ?_) | (with_reducible refine Keeps.alloc ?_ _) | (with_reducible refine Keeps.setRow ?_ (fun h => absurd h (by omega)) _) | (with_reducible refine Keeps.setCell ?_ (fun h => absurd h (by simp only []; omega)) _) | (with_reducible refine Keeps.trans ?_ HK8.out) | (with_reducible refine same_then ?_ HK8.out (fun k hk => by omega)) | (with_reducible refine Keeps.trans ?_ HK7.out) | (with_reducible refine same_then ?_ HK7.out (fun k hk => by omega)) | (with_reducible refine Keeps.trans ?_ HK6.out) | (with_reducible refine same_then ?_ HK6.out (fun k hk => by omega)) | (with_reducible refine Keeps.trans ?_ HK5.out) | (with_reducible refine same_then ?_ HK5.out (fun k hk => by omega)) | (with_reducible refine Keeps.trans ?_ HK4.out) | (with_reducible refine same_then ?_ HK4.out (fun k hk => by omega)) | (with_reducible refine Keeps.trans ?_ HK3.out) | (with_reducible refine same_then ?_ HK3.out (fun k hk => by omega)) | (with_reducible refine Keeps.trans ?_ HK2.out) | (with_reducible refine same_then ?_ HK2.out (fun k hk => by omega)) | (with_reducible refine Keeps.trans ?_ HK1.out) | (with_reducible refine same_then ?_ HK1.out (fun k hk => by omega))))
set_option maxHeartbeats 2000000 in
set_option maxRecDepth 100000 in
theorem rdo_mem_f (s : St) (op a b imm v : Int) (hs : s.Ok) (hi : (⟨op, a, b, imm⟩ : In).Ok) (_v0 : 0 ≤ v) (_v1 : v < 4294967296) (hm : mayB ⟨op, a, b, imm⟩ false = true) (c0 : 48 ≤ op) (c1 : op ≤ 58) (hf : (wantL s ⟨op, a, b, imm⟩).2.c ≠ 0) (w : World) :
    Calls Try.prog 18 #[.agg (stA s), .agg #[.int .u8 op, .int .u8 a, .int .u8 b, .int .i32 imm], .int .u32 v] w fun e w' => e = .returned (.tuple #[.agg (stA (doL s ⟨op, a, b, imm⟩ v).1), .agg (flA (doL s ⟨op, a, b, imm⟩ v).2)]) ∧ Same w w' := by
  have HM : Hid (∀ w, _) := hidE (fun w => may2_any _ false hi w)
  obtain ⟨a1, b1⟩ := may_regs hm
  simp only at a1 b1
  have a0 := hi.a0
  have b0 := hi.b0
  have o0 := hi.o0
  have o1 := hi.o1
  simp only at a0 b0 o0 o1
  have h8 : b.toNat < 8 := by omega
  have h9 : a.toNat < 8 := by omega
  have p0 := hs.r0 a.toNat
  have p1 := hs.r1 a.toNat
  have r0 := hs.r0 b.toNat
  have r1 := hs.r1 b.toNat
  have s0 := hs.ps0
  have s1 := hs.ps1
  have HO := hidE (fun w => of2_any op false (by omega) (by omega) w)
  rw [of2_form op false (by omega) (by omega)] at HO
  have hnx : (s.pc + (formL op false).n) % 4294967296 = nextL s ⟨op, a, b, imm⟩ := rfl
  have nx0 : 0 ≤ nextL s ⟨op, a, b, imm⟩ := Int.emod_nonneg _ (by omega)
  have nx1 : nextL s ⟨op, a, b, imm⟩ < 4294967296 := Int.emod_lt_of_pos _ (by omega)
  obtain ⟨f0, f6⟩ : 0 ≤ (formL op false).n ∧ (formL op false).n ≤ 6 := form_n op
  have HP : Hid (doL s ⟨op, a, b, imm⟩ v = (s, (wantL s ⟨op, a, b, imm⟩).2)) := hidE (by
    unfold doL; rw [if_neg (by simp [noneB, hm]; omega), if_pos hf])
  have e16 : (op == 16) = false := by simp; omega
  have e32 : (op == 32) = false := by simp; omega
  have e33 : (op == 33) = false := by simp; omega
  have e72 : (op == 72) = false := by simp; omega
  have e73 : (op == 73) = false := by simp; omega
  have e74 : (op == 74) = false := by simp; omega
  have e80 : (op == 80) = false := by simp; omega
  have HW := hidE (fun w => refw_any s _ hs hi w)
  simp only [inA] at HW
  generalize wantL s ⟨op, a, b, imm⟩ = W at HW HP hf
  obtain ⟨W1, W2⟩ := W
  simp only at hf HW HP
  have hx : (W2.c != 0) = true := bne_iff_ne.mpr hf
  clear hf
  rw [hm] at HM
  simp only [inA] at HM
  generalize nextL s ⟨op, a, b, imm⟩ = N at *
  generalize (formL op false).n = F at *
  generalize decide ((formL op false).a = 1) = fa at *
  generalize decide ((formL op false).b = 1) = fb at *
  generalize (formL op false).m = fm at *
  generalize decide ((formL op false).s = 1) = fs at *
  have HNX := hidE hnx
  clear hm hi hnx
  go_enter Try.func18, Try.ntmps18
  go_wp2_with fail
  refine (HM.out _).mono ?_
  rintro e w1 ⟨rfl, hk⟩
  (obtain ⟨hc1, hf1, hr1, -, -, -⟩ := same_facts hk); have lt_w1_0 : w.heap.size < w1.heap.size := (by have hh := (hk).size; (try simp at hh); omega); have lt_w1_1 : w.heap.size + 1 < w1.heap.size := (by have hh := (hk).size; (try simp at hh); omega); have lt_w1_2 : w.heap.size + 1 + 1 < w1.heap.size := (by have hh := (hk).size; (try simp at hh); omega); have lt_w1_3 : w.heap.size + 1 + 1 + 1 < w1.heap.size := (by have hh := (hk).size; (try simp at hh); omega); have lt1_w1_0 : w.heap.size < w1.heap.size + 1 := (by omega); have lt2_w1_0 : w.heap.size < w1.heap.size + 1 + 1 := (by omega); have lt1_w1_1 : w.heap.size + 1 < w1.heap.size + 1 := (by omega); have lt2_w1_1 : w.heap.size + 1 < w1.heap.size + 1 + 1 := (by omega); have lt1_w1_2 : w.heap.size + 1 + 1 < w1.heap.size + 1 := (by omega); have lt2_w1_2 : w.heap.size + 1 + 1 < w1.heap.size + 1 + 1 := (by omega); have lt1_w1_3 : w.heap.size + 1 + 1 + 1 < w1.heap.size + 1 := (by omega); have lt2_w1_3 : w.heap.size + 1 + 1 + 1 < w1.heap.size + 1 + 1 := (by omega); have rw_w1_0 := (hr1 (w.heap.size) (by (try simp); (try omega))).trans (show rowAt _ (w.heap.size) = _ by go_simp; rfl); have rw_w1_1 := (hr1 (w.heap.size + 1) (by (try simp); (try omega))).trans (show rowAt _ (w.heap.size + 1) = _ by go_simp; rfl); have rw_w1_2 := (hr1 (w.heap.size + 1 + 1) (by (try simp); (try omega))).trans (show rowAt _ (w.heap.size + 1 + 1) = _ by go_simp; rfl); have rw_w1_3 := (hr1 (w.heap.size + 1 + 1 + 1) (by (try simp); (try omega))).trans (show rowAt _ (w.heap.size + 1 + 1 + 1) = _ by go_simp; rfl); have HK1 := hidE hk; clear hk
  go_wp2_with fail
  refine wp_region_ra [0, 1, 2, 3, 4, 5, 6, 7, 8] [] 0 (Same _) (by kernel_rfl) (by kernel_rfl) (fun u u' h k => Keeps.trans h k) (Keeps.refl _ _).drew ?_
  simp only [opsOf, List.filterMap_cons, List.filterMap_nil, List.getElem?_cons_zero, List.getElem?_cons_succ]
  repeat (refine seqV_run (v := ?_) rfl (fun u hu => ?_) ?_; rotate_left; (focus (obtain ⟨hc, hf, hr, hl, hn, hm⟩ := same_facts hu; clear hu; go_simp; first | done | with_reducible rfl)); (try simp only [Act.put, List.setIfInBounds_toArray, List.set_cons_zero, List.set_cons_succ]))
  refine seqV_call (f := 43) (args := #[.int .u8 op, .bool false]) (v := .agg #[.int .i64 F, .bool fa, .bool fb, .int .i64 fm, .bool fs]) rfl (fun u hu => ?_) (fun u _ => HO.out u) ?_
  · (obtain ⟨hc, hf, hr, hl, hn, hm⟩ := same_facts hu; clear hu; go_simp)
  simp only [Act.put, List.setIfInBounds_toArray, List.set_cons_zero, List.set_cons_succ]
  repeat (refine seqV_run (v := ?_) rfl (fun u hu => ?_) ?_; rotate_left; (focus (obtain ⟨hc, hf, hr, hl, hn, hm⟩ := same_facts hu; clear hu; go_simp; first | done | with_reducible rfl)); (try simp only [Act.put, List.setIfInBounds_toArray, List.set_cons_zero, List.set_cons_succ]))
  refine seqV_nil ?_
  refine tailR_zero fun u1 hu _ => ?_
  (obtain ⟨hc2, hf2, hr2, -, -, -⟩ := same_facts hu); have lt_u1_0 : w.heap.size < u1.heap.size := (by have hh := (hu).size; (try simp at hh); omega); have lt_u1_1 : w.heap.size + 1 < u1.heap.size := (by have hh := (hu).size; (try simp at hh); omega); have lt_u1_2 : w.heap.size + 1 + 1 < u1.heap.size := (by have hh := (hu).size; (try simp at hh); omega); have lt_u1_3 : w.heap.size + 1 + 1 + 1 < u1.heap.size := (by have hh := (hu).size; (try simp at hh); omega); have lt1_u1_0 : w.heap.size < u1.heap.size + 1 := (by omega); have lt2_u1_0 : w.heap.size < u1.heap.size + 1 + 1 := (by omega); have lt1_u1_1 : w.heap.size + 1 < u1.heap.size + 1 := (by omega); have lt2_u1_1 : w.heap.size + 1 < u1.heap.size + 1 + 1 := (by omega); have lt1_u1_2 : w.heap.size + 1 + 1 < u1.heap.size + 1 := (by omega); have lt2_u1_2 : w.heap.size + 1 + 1 < u1.heap.size + 1 + 1 := (by omega); have lt1_u1_3 : w.heap.size + 1 + 1 + 1 < u1.heap.size + 1 := (by omega); have lt2_u1_3 : w.heap.size + 1 + 1 + 1 < u1.heap.size + 1 + 1 := (by omega); have rw_u1_0 := (hr2 (w.heap.size) (by (try simp); (try omega))).trans (show rowAt _ (w.heap.size) = _ by go_simp; rfl); have rw_u1_1 := (hr2 (w.heap.size + 1) (by (try simp); (try omega))).trans (show rowAt _ (w.heap.size + 1) = _ by go_simp; rfl); have rw_u1_2 := (hr2 (w.heap.size + 1 + 1) (by (try simp); (try omega))).trans (show rowAt _ (w.heap.size + 1 + 1) = _ by go_simp; rfl); have rw_u1_3 := (hr2 (w.heap.size + 1 + 1 + 1) (by (try simp); (try omega))).trans (show rowAt _ (w.heap.size + 1 + 1 + 1) = _ by go_simp; rfl); have HK2 := hidE hu; clear hu
  have rw_u1_0 := (hr2 (w1.heap.size) (by (try simp); (try omega))).trans (show rowAt _ (w1.heap.size) = _ by go_simp; rfl)
  have lt_u1_0 : w1.heap.size < u1.heap.size := (by have hh := (HK2.out).size; (try simp at hh); omega); have lt1_u1_0 : w1.heap.size < u1.heap.size + 1 := (by omega); have lt2_u1_0 : w1.heap.size < u1.heap.size + 1 + 1 := (by omega)
  have nn_w1_0_0 : w.heap.size ≠ w1.heap.size := (by omega); have mm_w1_0_0 : w1.heap.size ≠ w.heap.size := (by omega); have nn_w1_0_1 : w.heap.size + 1 ≠ w1.heap.size := (by omega); have mm_w1_0_1 : w1.heap.size ≠ w.heap.size + 1 := (by omega); have nn_w1_0_2 : w.heap.size + 1 + 1 ≠ w1.heap.size := (by omega); have mm_w1_0_2 : w1.heap.size ≠ w.heap.size + 1 + 1 := (by omega); have nn_w1_0_3 : w.heap.size + 1 + 1 + 1 ≠ w1.heap.size := (by omega); have mm_w1_0_3 : w1.heap.size ≠ w.heap.size + 1 + 1 + 1 := (by omega)
  simp only [IntKind.wrap_u32', Int.add_emod_emod, HNX.out]
  go_wp2_with fail
  refine wp_region_ra [0, 1, 2, 3, 4, 5, 6, 7, 8, 9, 10, 11] [] 0 (Same _) (by kernel_rfl) (by kernel_rfl) (fun u u' h k => Keeps.trans h k) (Keeps.refl _ _).drew ?_
  simp only [opsOf, List.filterMap_cons, List.filterMap_nil, List.getElem?_cons_zero, List.getElem?_cons_succ]
  repeat (refine seqV_run (v := ?_) rfl (fun u hu => ?_) ?_; rotate_left; (focus (obtain ⟨hc, hf, hr, hl, hn, hm⟩ := same_facts hu; clear hu; go_simp; first | done | with_reducible rfl)); (try simp only [Act.put, List.setIfInBounds_toArray, List.set_cons_zero, List.set_cons_succ]))
  refine seqV_nil ?_
  refine tailR_zero fun u2 hu _ => ?_
  (obtain ⟨hc3, hf3, hr3, -, -, -⟩ := same_facts hu); have lt_u2_0 : w.heap.size < u2.heap.size := (by have hh := (hu).size; (try simp at hh); omega); have lt_u2_1 : w.heap.size + 1 < u2.heap.size := (by have hh := (hu).size; (try simp at hh); omega); have lt_u2_2 : w.heap.size + 1 + 1 < u2.heap.size := (by have hh := (hu).size; (try simp at hh); omega); have lt_u2_3 : w.heap.size + 1 + 1 + 1 < u2.heap.size := (by have hh := (hu).size; (try simp at hh); omega); have lt1_u2_0 : w.heap.size < u2.heap.size + 1 := (by omega); have lt2_u2_0 : w.heap.size < u2.heap.size + 1 + 1 := (by omega); have lt1_u2_1 : w.heap.size + 1 < u2.heap.size + 1 := (by omega); have lt2_u2_1 : w.heap.size + 1 < u2.heap.size + 1 + 1 := (by omega); have lt1_u2_2 : w.heap.size + 1 + 1 < u2.heap.size + 1 := (by omega); have lt2_u2_2 : w.heap.size + 1 + 1 < u2.heap.size + 1 + 1 := (by omega); have lt1_u2_3 : w.heap.size + 1 + 1 + 1 < u2.heap.size + 1 := (by omega); have lt2_u2_3 : w.heap.size + 1 + 1 + 1 < u2.heap.size + 1 + 1 := (by omega); have rw_u2_0 := (hr3 (w.heap.size) (by (try simp); (try omega))).trans (show rowAt _ (w.heap.size) = _ by go_simp; rfl); have rw_u2_1 := (hr3 (w.heap.size + 1) (by (try simp); (try omega))).trans (show rowAt _ (w.heap.size + 1) = _ by go_simp; rfl); have rw_u2_2 := (hr3 (w.heap.size + 1 + 1) (by (try simp); (try omega))).trans (show rowAt _ (w.heap.size + 1 + 1) = _ by go_simp; rfl); have rw_u2_3 := (hr3 (w.heap.size + 1 + 1 + 1) (by (try simp); (try omega))).trans (show rowAt _ (w.heap.size + 1 + 1 + 1) = _ by go_simp; rfl); have HK3 := hidE hu; clear hu
  have rw_u2_0 := (hr3 (w1.heap.size) (by (try simp); (try omega))).trans (show rowAt _ (w1.heap.size) = _ by go_simp; rfl)
  have lt_u2_0 : w1.heap.size < u2.heap.size := (by have hh := (HK3.out).size; (try simp at hh); omega); have lt1_u2_0 : w1.heap.size < u2.heap.size + 1 := (by omega); have lt2_u2_0 : w1.heap.size < u2.heap.size + 1 + 1 := (by omega)
  go_wp2_with fail
  refine (HW.out _).mono ?_
  rintro e w4 ⟨rfl, hk⟩
  (obtain ⟨hc4, hf4, hr4, -, -, -⟩ := same_facts hk); have lt_w4_0 : w.heap.size < w4.heap.size := (by have hh := (hk).size; (try simp at hh); omega); have lt_w4_1 : w.heap.size + 1 < w4.heap.size := (by have hh := (hk).size; (try simp at hh); omega); have lt_w4_2 : w.heap.size + 1 + 1 < w4.heap.size := (by have hh := (hk).size; (try simp at hh); omega); have lt_w4_3 : w.heap.size + 1 + 1 + 1 < w4.heap.size := (by have hh := (hk).size; (try simp at hh); omega); have lt1_w4_0 : w.heap.size < w4.heap.size + 1 := (by omega); have lt2_w4_0 : w.heap.size < w4.heap.size + 1 + 1 := (by omega); have lt1_w4_1 : w.heap.size + 1 < w4.heap.size + 1 := (by omega); have lt2_w4_1 : w.heap.size + 1 < w4.heap.size + 1 + 1 := (by omega); have lt1_w4_2 : w.heap.size + 1 + 1 < w4.heap.size + 1 := (by omega); have lt2_w4_2 : w.heap.size + 1 + 1 < w4.heap.size + 1 + 1 := (by omega); have lt1_w4_3 : w.heap.size + 1 + 1 + 1 < w4.heap.size + 1 := (by omega); have lt2_w4_3 : w.heap.size + 1 + 1 + 1 < w4.heap.size + 1 + 1 := (by omega); have rw_w4_0 := (hr4 (w.heap.size) (by (try simp); (try omega))).trans (show rowAt _ (w.heap.size) = _ by go_simp; rfl); have rw_w4_1 := (hr4 (w.heap.size + 1) (by (try simp); (try omega))).trans (show rowAt _ (w.heap.size + 1) = _ by go_simp; rfl); have rw_w4_2 := (hr4 (w.heap.size + 1 + 1) (by (try simp); (try omega))).trans (show rowAt _ (w.heap.size + 1 + 1) = _ by go_simp; rfl); have rw_w4_3 := (hr4 (w.heap.size + 1 + 1 + 1) (by (try simp); (try omega))).trans (show rowAt _ (w.heap.size + 1 + 1 + 1) = _ by go_simp; rfl); have HK4 := hidE hk; clear hk
  have rw_w4_0 := (hr4 (w1.heap.size) (by (try simp); (try omega))).trans (show rowAt _ (w1.heap.size) = _ by go_simp; rfl)
  have lt_w4_0 : w1.heap.size < w4.heap.size := (by have hh := (HK4.out).size; (try simp at hh); omega); have lt1_w4_0 : w1.heap.size < w4.heap.size + 1 := (by omega); have lt2_w4_0 : w1.heap.size < w4.heap.size + 1 + 1 := (by omega)
  have nn_w4_0_0 : w.heap.size ≠ w4.heap.size := (by omega); have mm_w4_0_0 : w4.heap.size ≠ w.heap.size := (by omega); have nn_w4_1_0 : w.heap.size ≠ w4.heap.size + 1 := (by omega); have mm_w4_1_0 : w4.heap.size + 1 ≠ w.heap.size := (by omega); have nn_w4_0_1 : w.heap.size + 1 ≠ w4.heap.size := (by omega); have mm_w4_0_1 : w4.heap.size ≠ w.heap.size + 1 := (by omega); have nn_w4_1_1 : w.heap.size + 1 ≠ w4.heap.size + 1 := (by omega); have mm_w4_1_1 : w4.heap.size + 1 ≠ w.heap.size + 1 := (by omega); have nn_w4_0_2 : w.heap.size + 1 + 1 ≠ w4.heap.size := (by omega); have mm_w4_0_2 : w4.heap.size ≠ w.heap.size + 1 + 1 := (by omega); have nn_w4_1_2 : w.heap.size + 1 + 1 ≠ w4.heap.size + 1 := (by omega); have mm_w4_1_2 : w4.heap.size + 1 ≠ w.heap.size + 1 + 1 := (by omega); have nn_w4_0_3 : w.heap.size + 1 + 1 + 1 ≠ w4.heap.size := (by omega); have mm_w4_0_3 : w4.heap.size ≠ w.heap.size + 1 + 1 + 1 := (by omega); have nn_w4_1_3 : w.heap.size + 1 + 1 + 1 ≠ w4.heap.size + 1 := (by omega); have mm_w4_1_3 : w4.heap.size + 1 ≠ w.heap.size + 1 + 1 + 1 := (by omega)
  have nn_w4_0_0 : w1.heap.size ≠ w4.heap.size := (by omega); have mm_w4_0_0 : w4.heap.size ≠ w1.heap.size := (by omega); have nn_w4_1_0 : w1.heap.size ≠ w4.heap.size + 1 := (by omega); have mm_w4_1_0 : w4.heap.size + 1 ≠ w1.heap.size := (by omega)
  go_wp2_with fail
  refine wp_region_ra [0, 1] [2, 3] 1 (SR _ (w.heap.size + 1 + 1) 18) (by kernel_rfl) (by kernel_rfl) SR.same (SR.init (by go_simp; first | done | rfl)) ?_
  simp only [opsOf, List.filterMap_cons, List.filterMap_nil, List.getElem?_cons_zero, List.getElem?_cons_succ]
  repeat (refine seqV_run (v := ?_) rfl (fun u hu => ?_) ?_; rotate_left; (focus (obtain ⟨hc, hf, hr⟩ := SR.facts hu; clear hu; go_simp; first | done | with_reducible rfl)); (try simp only [Act.put, List.setIfInBounds_toArray, List.set_cons_zero, List.set_cons_succ]))
  refine seqV_nil ?_
  refine tailR_row (A := stA s) rfl (sa_size _) (fun u hu => ?_) ?_
  · have z := hu.z
    clear hu
    go_simp
  simp only [Act.put]
  refine tailR_zero fun u9 hu hrow => ?_
  obtain ⟨hc9, hf9, hr9⟩ := SR.facts hu
  have lt_u9_0 : w.heap.size < u9.heap.size := (by have hh := (hu.k).size; (try simp at hh); omega); have lt_u9_1 : w.heap.size + 1 < u9.heap.size := (by have hh := (hu.k).size; (try simp at hh); omega); have lt_u9_2 : w.heap.size + 1 + 1 < u9.heap.size := (by have hh := (hu.k).size; (try simp at hh); omega); have lt_u9_3 : w.heap.size + 1 + 1 + 1 < u9.heap.size := (by have hh := (hu.k).size; (try simp at hh); omega); have lt1_u9_0 : w.heap.size < u9.heap.size + 1 := (by omega); have lt2_u9_0 : w.heap.size < u9.heap.size + 1 + 1 := (by omega); have lt1_u9_1 : w.heap.size + 1 < u9.heap.size + 1 := (by omega); have lt2_u9_1 : w.heap.size + 1 < u9.heap.size + 1 + 1 := (by omega); have lt1_u9_2 : w.heap.size + 1 + 1 < u9.heap.size + 1 := (by omega); have lt2_u9_2 : w.heap.size + 1 + 1 < u9.heap.size + 1 + 1 := (by omega); have lt1_u9_3 : w.heap.size + 1 + 1 + 1 < u9.heap.size + 1 := (by omega); have lt2_u9_3 : w.heap.size + 1 + 1 + 1 < u9.heap.size + 1 + 1 := (by omega)
  have rw_u9_3 := (hr9 (w.heap.size + 1 + 1 + 1) (by (try simp); (try omega)) (by (try simp); (try omega))).trans (show rowAt _ (w.heap.size + 1 + 1 + 1) = _ by go_simp; rfl)
  have HK7 := hidE hu.k
  clear hu
  go_wp2
  refine post_row2 rfl Try.underlying25 rfl infoS Try.underlying31 rfl infoF rfl rfl rfl (by go_simp; rfl) (by go_simp; rfl) (sa_size _) rfl ⟨by rw [HP.out]; first | done | rfl, ?_⟩
  (repeat (first | with_reducible exact Keeps.refl _ _ | (with_reducible refine Keeps.drew ?_) | (with_reducible refine Keeps.alloc ?_ _) | (with_reducible refine Keeps.setRow ?_ (fun h => absurd h (by omega)) _) | (with_reducible refine Keeps.setCell ?_ (fun h => absurd h (by simp only []; omega)) _) | (with_reducible refine Keeps.trans ?_ HK8.out) | (with_reducible refine same_then ?_ HK8.out (fun k hk => by omega)) | (with_reducible refine Keeps.trans ?_ HK7.out) | (with_reducible refine same_then ?_ HK7.out (fun k hk => by omega)) | (with_reducible refine Keeps.trans ?_ HK6.out) | (with_reducible refine same_then ?_ HK6.out (fun k hk => by omega)) | (with_reducible refine Keeps.trans ?_ HK5.out) | (with_reducible refine same_then ?_ HK5.out (fun k hk => by omega)) | (with_reducible refine Keeps.trans ?_ HK4.out) | (with_reducible refine same_then ?_ HK4.out (fun k hk => by omega)) | (with_reducible refine Keeps.trans ?_ HK3.out) | (with_reducible refine same_then ?_ HK3.out (fun k hk => by omega)) | (with_reducible refine Keeps.trans ?_ HK2.out) | (with_reducible refine same_then ?_ HK2.out (fun k hk => by omega)) | (with_reducible refine Keeps.trans ?_ HK1.out) | (with_reducible refine same_then ?_ HK1.out (fun k hk => by omega))))
set_option maxHeartbeats 2000000 in
set_option maxRecDepth 100000 in
theorem rdo_mem (s : St) (op a b imm v : Int) (hs : s.Ok) (hi : (⟨op, a, b, imm⟩ : In).Ok) (v0 : 0 ≤ v) (v1 : v < 4294967296) (hm : mayB ⟨op, a, b, imm⟩ false = true) (c0 : 48 ≤ op) (c1 : op ≤ 58) (hf : (wantL s ⟨op, a, b, imm⟩).2.c = 0) (w : World) :
    Calls Try.prog 18 #[.agg (stA s), .agg #[.int .u8 op, .int .u8 a, .int .u8 b, .int .i32 imm], .int .u32 v] w fun e w' => e = .returned (.tuple #[.agg (stA (doL s ⟨op, a, b, imm⟩ v).1), .agg (flA (doL s ⟨op, a, b, imm⟩ v).2)]) ∧ Same w w' := by
  have HM : Hid (∀ w, _) := hidE (fun w => may2_any _ false hi w)
  obtain ⟨a1, b1⟩ := may_regs hm
  simp only at a1 b1
  have a0 := hi.a0
  have b0 := hi.b0
  have o0 := hi.o0
  have o1 := hi.o1
  simp only at a0 b0 o0 o1
  have h8 : b.toNat < 8 := by omega
  have h9 : a.toNat < 8 := by omega
  have p0 := hs.r0 a.toNat
  have p1 := hs.r1 a.toNat
  have r0 := hs.r0 b.toNat
  have r1 := hs.r1 b.toNat
  have s0 := hs.ps0
  have s1 := hs.ps1
  have HO := hidE (fun w => of2_any op false (by omega) (by omega) w)
  rw [of2_form op false (by omega) (by omega)] at HO
  have hnx : (s.pc + (formL op false).n) % 4294967296 = nextL s ⟨op, a, b, imm⟩ := rfl
  have nx0 : 0 ≤ nextL s ⟨op, a, b, imm⟩ := Int.emod_nonneg _ (by omega)
  have nx1 : nextL s ⟨op, a, b, imm⟩ < 4294967296 := Int.emod_lt_of_pos _ (by omega)
  obtain ⟨f0, f6⟩ : 0 ≤ (formL op false).n ∧ (formL op false).n ≤ 6 := form_n op
  have HP : Hid (doL s ⟨op, a, b, imm⟩ v = (movedL (s.setPc (nextL s ⟨op, a, b, imm⟩)) ⟨op, a, b, imm⟩ v, fl0)) := hidE (by
    rw [doL_plain s _ v hm (by simp only; omega) hf]
    unfold plainL
    simp only
    rw [if_neg (by omega), if_neg (by omega), if_neg (by omega), if_pos (by simp [memB]; omega)])
  have e16 : (op == 16) = false := by simp; omega
  have e32 : (op == 32) = false := by simp; omega
  have e33 : (op == 33) = false := by simp; omega
  have e72 : (op == 72) = false := by simp; omega
  have e73 : (op == 73) = false := by simp; omega
  have e74 : (op == 74) = false := by simp; omega
  have e80 : (op == 80) = false := by simp; omega
  have HW := hidE (fun w => refw_any s _ hs hi w)
  simp only [inA] at HW
  have HV := hidE (fun w => rmoved_any (s.setPc (nextL s ⟨op, a, b, imm⟩)) op a b imm v c0 c1 (setPc_ok hs nx0 nx1) a0 a1 v0 v1 w)
  generalize movedL (s.setPc (nextL s ⟨op, a, b, imm⟩)) ⟨op, a, b, imm⟩ v = MV at HV HP
  generalize wantL s ⟨op, a, b, imm⟩ = W at HW hf
  obtain ⟨W1, ⟨W2, W3⟩⟩ := W
  simp only at hf HW
  subst hf
  rw [hm] at HM
  simp only [inA] at HM
  generalize nextL s ⟨op, a, b, imm⟩ = N at *
  generalize (formL op false).n = F at *
  generalize decide ((formL op false).a = 1) = fa at *
  generalize decide ((formL op false).b = 1) = fb at *
  generalize (formL op false).m = fm at *
  generalize decide ((formL op false).s = 1) = fs at *
  have HNX := hidE hnx
  clear hm hi hnx
  go_enter Try.func18, Try.ntmps18
  go_wp2_with fail
  refine (HM.out _).mono ?_
  rintro e w1 ⟨rfl, hk⟩
  (obtain ⟨hc1, hf1, hr1, -, -, -⟩ := same_facts hk); have lt_w1_0 : w.heap.size < w1.heap.size := (by have hh := (hk).size; (try simp at hh); omega); have lt_w1_1 : w.heap.size + 1 < w1.heap.size := (by have hh := (hk).size; (try simp at hh); omega); have lt_w1_2 : w.heap.size + 1 + 1 < w1.heap.size := (by have hh := (hk).size; (try simp at hh); omega); have lt_w1_3 : w.heap.size + 1 + 1 + 1 < w1.heap.size := (by have hh := (hk).size; (try simp at hh); omega); have lt1_w1_0 : w.heap.size < w1.heap.size + 1 := (by omega); have lt2_w1_0 : w.heap.size < w1.heap.size + 1 + 1 := (by omega); have lt1_w1_1 : w.heap.size + 1 < w1.heap.size + 1 := (by omega); have lt2_w1_1 : w.heap.size + 1 < w1.heap.size + 1 + 1 := (by omega); have lt1_w1_2 : w.heap.size + 1 + 1 < w1.heap.size + 1 := (by omega); have lt2_w1_2 : w.heap.size + 1 + 1 < w1.heap.size + 1 + 1 := (by omega); have lt1_w1_3 : w.heap.size + 1 + 1 + 1 < w1.heap.size + 1 := (by omega); have lt2_w1_3 : w.heap.size + 1 + 1 + 1 < w1.heap.size + 1 + 1 := (by omega); have rw_w1_0 := (hr1 (w.heap.size) (by (try simp); (try omega))).trans (show rowAt _ (w.heap.size) = _ by go_simp; rfl); have rw_w1_1 := (hr1 (w.heap.size + 1) (by (try simp); (try omega))).trans (show rowAt _ (w.heap.size + 1) = _ by go_simp; rfl); have rw_w1_2 := (hr1 (w.heap.size + 1 + 1) (by (try simp); (try omega))).trans (show rowAt _ (w.heap.size + 1 + 1) = _ by go_simp; rfl); have rw_w1_3 := (hr1 (w.heap.size + 1 + 1 + 1) (by (try simp); (try omega))).trans (show rowAt _ (w.heap.size + 1 + 1 + 1) = _ by go_simp; rfl); have HK1 := hidE hk; clear hk
  go_wp2_with fail
  refine wp_region_ra [0, 1, 2, 3, 4, 5, 6, 7, 8] [] 0 (Same _) (by kernel_rfl) (by kernel_rfl) (fun u u' h k => Keeps.trans h k) (Keeps.refl _ _).drew ?_
  simp only [opsOf, List.filterMap_cons, List.filterMap_nil, List.getElem?_cons_zero, List.getElem?_cons_succ]
  repeat (refine seqV_run (v := ?_) rfl (fun u hu => ?_) ?_; rotate_left; (focus (obtain ⟨hc, hf, hr, hl, hn, hm⟩ := same_facts hu; clear hu; go_simp; first | done | with_reducible rfl)); (try simp only [Act.put, List.setIfInBounds_toArray, List.set_cons_zero, List.set_cons_succ]))
  refine seqV_call (f := 43) (args := #[.int .u8 op, .bool false]) (v := .agg #[.int .i64 F, .bool fa, .bool fb, .int .i64 fm, .bool fs]) rfl (fun u hu => ?_) (fun u _ => HO.out u) ?_
  · (obtain ⟨hc, hf, hr, hl, hn, hm⟩ := same_facts hu; clear hu; go_simp)
  simp only [Act.put, List.setIfInBounds_toArray, List.set_cons_zero, List.set_cons_succ]
  repeat (refine seqV_run (v := ?_) rfl (fun u hu => ?_) ?_; rotate_left; (focus (obtain ⟨hc, hf, hr, hl, hn, hm⟩ := same_facts hu; clear hu; go_simp; first | done | with_reducible rfl)); (try simp only [Act.put, List.setIfInBounds_toArray, List.set_cons_zero, List.set_cons_succ]))
  refine seqV_nil ?_
  refine tailR_zero fun u1 hu _ => ?_
  (obtain ⟨hc2, hf2, hr2, -, -, -⟩ := same_facts hu); have lt_u1_0 : w.heap.size < u1.heap.size := (by have hh := (hu).size; (try simp at hh); omega); have lt_u1_1 : w.heap.size + 1 < u1.heap.size := (by have hh := (hu).size; (try simp at hh); omega); have lt_u1_2 : w.heap.size + 1 + 1 < u1.heap.size := (by have hh := (hu).size; (try simp at hh); omega); have lt_u1_3 : w.heap.size + 1 + 1 + 1 < u1.heap.size := (by have hh := (hu).size; (try simp at hh); omega); have lt1_u1_0 : w.heap.size < u1.heap.size + 1 := (by omega); have lt2_u1_0 : w.heap.size < u1.heap.size + 1 + 1 := (by omega); have lt1_u1_1 : w.heap.size + 1 < u1.heap.size + 1 := (by omega); have lt2_u1_1 : w.heap.size + 1 < u1.heap.size + 1 + 1 := (by omega); have lt1_u1_2 : w.heap.size + 1 + 1 < u1.heap.size + 1 := (by omega); have lt2_u1_2 : w.heap.size + 1 + 1 < u1.heap.size + 1 + 1 := (by omega); have lt1_u1_3 : w.heap.size + 1 + 1 + 1 < u1.heap.size + 1 := (by omega); have lt2_u1_3 : w.heap.size + 1 + 1 + 1 < u1.heap.size + 1 + 1 := (by omega); have rw_u1_0 := (hr2 (w.heap.size) (by (try simp); (try omega))).trans (show rowAt _ (w.heap.size) = _ by go_simp; rfl); have rw_u1_1 := (hr2 (w.heap.size + 1) (by (try simp); (try omega))).trans (show rowAt _ (w.heap.size + 1) = _ by go_simp; rfl); have rw_u1_2 := (hr2 (w.heap.size + 1 + 1) (by (try simp); (try omega))).trans (show rowAt _ (w.heap.size + 1 + 1) = _ by go_simp; rfl); have rw_u1_3 := (hr2 (w.heap.size + 1 + 1 + 1) (by (try simp); (try omega))).trans (show rowAt _ (w.heap.size + 1 + 1 + 1) = _ by go_simp; rfl); have HK2 := hidE hu; clear hu
  have rw_u1_0 := (hr2 (w1.heap.size) (by (try simp); (try omega))).trans (show rowAt _ (w1.heap.size) = _ by go_simp; rfl)
  have lt_u1_0 : w1.heap.size < u1.heap.size := (by have hh := (HK2.out).size; (try simp at hh); omega); have lt1_u1_0 : w1.heap.size < u1.heap.size + 1 := (by omega); have lt2_u1_0 : w1.heap.size < u1.heap.size + 1 + 1 := (by omega)
  have nn_w1_0_0 : w.heap.size ≠ w1.heap.size := (by omega); have mm_w1_0_0 : w1.heap.size ≠ w.heap.size := (by omega); have nn_w1_0_1 : w.heap.size + 1 ≠ w1.heap.size := (by omega); have mm_w1_0_1 : w1.heap.size ≠ w.heap.size + 1 := (by omega); have nn_w1_0_2 : w.heap.size + 1 + 1 ≠ w1.heap.size := (by omega); have mm_w1_0_2 : w1.heap.size ≠ w.heap.size + 1 + 1 := (by omega); have nn_w1_0_3 : w.heap.size + 1 + 1 + 1 ≠ w1.heap.size := (by omega); have mm_w1_0_3 : w1.heap.size ≠ w.heap.size + 1 + 1 + 1 := (by omega)
  simp only [IntKind.wrap_u32', Int.add_emod_emod, HNX.out]
  go_wp2_with fail
  refine wp_region_ra [0, 1, 2, 3, 4, 5, 6, 7, 8, 9, 10, 11] [] 0 (Same _) (by kernel_rfl) (by kernel_rfl) (fun u u' h k => Keeps.trans h k) (Keeps.refl _ _).drew ?_
  simp only [opsOf, List.filterMap_cons, List.filterMap_nil, List.getElem?_cons_zero, List.getElem?_cons_succ]
  repeat (refine seqV_run (v := ?_) rfl (fun u hu => ?_) ?_; rotate_left; (focus (obtain ⟨hc, hf, hr, hl, hn, hm⟩ := same_facts hu; clear hu; go_simp; first | done | with_reducible rfl)); (try simp only [Act.put, List.setIfInBounds_toArray, List.set_cons_zero, List.set_cons_succ]))
  refine seqV_nil ?_
  refine tailR_zero fun u2 hu _ => ?_
  (obtain ⟨hc3, hf3, hr3, -, -, -⟩ := same_facts hu); have lt_u2_0 : w.heap.size < u2.heap.size := (by have hh := (hu).size; (try simp at hh); omega); have lt_u2_1 : w.heap.size + 1 < u2.heap.size := (by have hh := (hu).size; (try simp at hh); omega); have lt_u2_2 : w.heap.size + 1 + 1 < u2.heap.size := (by have hh := (hu).size; (try simp at hh); omega); have lt_u2_3 : w.heap.size + 1 + 1 + 1 < u2.heap.size := (by have hh := (hu).size; (try simp at hh); omega); have lt1_u2_0 : w.heap.size < u2.heap.size + 1 := (by omega); have lt2_u2_0 : w.heap.size < u2.heap.size + 1 + 1 := (by omega); have lt1_u2_1 : w.heap.size + 1 < u2.heap.size + 1 := (by omega); have lt2_u2_1 : w.heap.size + 1 < u2.heap.size + 1 + 1 := (by omega); have lt1_u2_2 : w.heap.size + 1 + 1 < u2.heap.size + 1 := (by omega); have lt2_u2_2 : w.heap.size + 1 + 1 < u2.heap.size + 1 + 1 := (by omega); have lt1_u2_3 : w.heap.size + 1 + 1 + 1 < u2.heap.size + 1 := (by omega); have lt2_u2_3 : w.heap.size + 1 + 1 + 1 < u2.heap.size + 1 + 1 := (by omega); have rw_u2_0 := (hr3 (w.heap.size) (by (try simp); (try omega))).trans (show rowAt _ (w.heap.size) = _ by go_simp; rfl); have rw_u2_1 := (hr3 (w.heap.size + 1) (by (try simp); (try omega))).trans (show rowAt _ (w.heap.size + 1) = _ by go_simp; rfl); have rw_u2_2 := (hr3 (w.heap.size + 1 + 1) (by (try simp); (try omega))).trans (show rowAt _ (w.heap.size + 1 + 1) = _ by go_simp; rfl); have rw_u2_3 := (hr3 (w.heap.size + 1 + 1 + 1) (by (try simp); (try omega))).trans (show rowAt _ (w.heap.size + 1 + 1 + 1) = _ by go_simp; rfl); have HK3 := hidE hu; clear hu
  have rw_u2_0 := (hr3 (w1.heap.size) (by (try simp); (try omega))).trans (show rowAt _ (w1.heap.size) = _ by go_simp; rfl)
  have lt_u2_0 : w1.heap.size < u2.heap.size := (by have hh := (HK3.out).size; (try simp at hh); omega); have lt1_u2_0 : w1.heap.size < u2.heap.size + 1 := (by omega); have lt2_u2_0 : w1.heap.size < u2.heap.size + 1 + 1 := (by omega)
  go_wp2_with fail
  refine (HW.out _).mono ?_
  rintro e w4 ⟨rfl, hk⟩
  (obtain ⟨hc4, hf4, hr4, -, -, -⟩ := same_facts hk); have lt_w4_0 : w.heap.size < w4.heap.size := (by have hh := (hk).size; (try simp at hh); omega); have lt_w4_1 : w.heap.size + 1 < w4.heap.size := (by have hh := (hk).size; (try simp at hh); omega); have lt_w4_2 : w.heap.size + 1 + 1 < w4.heap.size := (by have hh := (hk).size; (try simp at hh); omega); have lt_w4_3 : w.heap.size + 1 + 1 + 1 < w4.heap.size := (by have hh := (hk).size; (try simp at hh); omega); have lt1_w4_0 : w.heap.size < w4.heap.size + 1 := (by omega); have lt2_w4_0 : w.heap.size < w4.heap.size + 1 + 1 := (by omega); have lt1_w4_1 : w.heap.size + 1 < w4.heap.size + 1 := (by omega); have lt2_w4_1 : w.heap.size + 1 < w4.heap.size + 1 + 1 := (by omega); have lt1_w4_2 : w.heap.size + 1 + 1 < w4.heap.size + 1 := (by omega); have lt2_w4_2 : w.heap.size + 1 + 1 < w4.heap.size + 1 + 1 := (by omega); have lt1_w4_3 : w.heap.size + 1 + 1 + 1 < w4.heap.size + 1 := (by omega); have lt2_w4_3 : w.heap.size + 1 + 1 + 1 < w4.heap.size + 1 + 1 := (by omega); have rw_w4_0 := (hr4 (w.heap.size) (by (try simp); (try omega))).trans (show rowAt _ (w.heap.size) = _ by go_simp; rfl); have rw_w4_1 := (hr4 (w.heap.size + 1) (by (try simp); (try omega))).trans (show rowAt _ (w.heap.size + 1) = _ by go_simp; rfl); have rw_w4_2 := (hr4 (w.heap.size + 1 + 1) (by (try simp); (try omega))).trans (show rowAt _ (w.heap.size + 1 + 1) = _ by go_simp; rfl); have rw_w4_3 := (hr4 (w.heap.size + 1 + 1 + 1) (by (try simp); (try omega))).trans (show rowAt _ (w.heap.size + 1 + 1 + 1) = _ by go_simp; rfl); have HK4 := hidE hk; clear hk
  have rw_w4_0 := (hr4 (w1.heap.size) (by (try simp); (try omega))).trans (show rowAt _ (w1.heap.size) = _ by go_simp; rfl)
  have lt_w4_0 : w1.heap.size < w4.heap.size := (by have hh := (HK4.out).size; (try simp at hh); omega); have lt1_w4_0 : w1.heap.size < w4.heap.size + 1 := (by omega); have lt2_w4_0 : w1.heap.size < w4.heap.size + 1 + 1 := (by omega)
  have nn_w4_0_0 : w.heap.size ≠ w4.heap.size := (by omega); have mm_w4_0_0 : w4.heap.size ≠ w.heap.size := (by omega); have nn_w4_1_0 : w.heap.size ≠ w4.heap.size + 1 := (by omega); have mm_w4_1_0 : w4.heap.size + 1 ≠ w.heap.size := (by omega); have nn_w4_0_1 : w.heap.size + 1 ≠ w4.heap.size := (by omega); have mm_w4_0_1 : w4.heap.size ≠ w.heap.size + 1 := (by omega); have nn_w4_1_1 : w.heap.size + 1 ≠ w4.heap.size + 1 := (by omega); have mm_w4_1_1 : w4.heap.size + 1 ≠ w.heap.size + 1 := (by omega); have nn_w4_0_2 : w.heap.size + 1 + 1 ≠ w4.heap.size := (by omega); have mm_w4_0_2 : w4.heap.size ≠ w.heap.size + 1 + 1 := (by omega); have nn_w4_1_2 : w.heap.size + 1 + 1 ≠ w4.heap.size + 1 := (by omega); have mm_w4_1_2 : w4.heap.size + 1 ≠ w.heap.size + 1 + 1 := (by omega); have nn_w4_0_3 : w.heap.size + 1 + 1 + 1 ≠ w4.heap.size := (by omega); have mm_w4_0_3 : w4.heap.size ≠ w.heap.size + 1 + 1 + 1 := (by omega); have nn_w4_1_3 : w.heap.size + 1 + 1 + 1 ≠ w4.heap.size + 1 := (by omega); have mm_w4_1_3 : w4.heap.size + 1 ≠ w.heap.size + 1 + 1 + 1 := (by omega)
  have nn_w4_0_0 : w1.heap.size ≠ w4.heap.size := (by omega); have mm_w4_0_0 : w4.heap.size ≠ w1.heap.size := (by omega); have nn_w4_1_0 : w1.heap.size ≠ w4.heap.size + 1 := (by omega); have mm_w4_1_0 : w4.heap.size + 1 ≠ w1.heap.size := (by omega)
  go_wp2_with fail
  refine (HV.out _).mono ?_
  rintro e w5 ⟨rfl, hk⟩
  (obtain ⟨hc5, hf5, hr5, -, -, -⟩ := same_facts hk); have lt_w5_0 : w.heap.size < w5.heap.size := (by have hh := (hk).size; (try simp at hh); omega); have lt_w5_1 : w.heap.size + 1 < w5.heap.size := (by have hh := (hk).size; (try simp at hh); omega); have lt_w5_2 : w.heap.size + 1 + 1 < w5.heap.size := (by have hh := (hk).size; (try simp at hh); omega); have lt_w5_3 : w.heap.size + 1 + 1 + 1 < w5.heap.size := (by have hh := (hk).size; (try simp at hh); omega); have lt1_w5_0 : w.heap.size < w5.heap.size + 1 := (by omega); have lt2_w5_0 : w.heap.size < w5.heap.size + 1 + 1 := (by omega); have lt1_w5_1 : w.heap.size + 1 < w5.heap.size + 1 := (by omega); have lt2_w5_1 : w.heap.size + 1 < w5.heap.size + 1 + 1 := (by omega); have lt1_w5_2 : w.heap.size + 1 + 1 < w5.heap.size + 1 := (by omega); have lt2_w5_2 : w.heap.size + 1 + 1 < w5.heap.size + 1 + 1 := (by omega); have lt1_w5_3 : w.heap.size + 1 + 1 + 1 < w5.heap.size + 1 := (by omega); have lt2_w5_3 : w.heap.size + 1 + 1 + 1 < w5.heap.size + 1 + 1 := (by omega); have rw_w5_0 := (hr5 (w.heap.size) (by (try simp); (try omega))).trans (show rowAt _ (w.heap.size) = _ by go_simp; rfl); have rw_w5_1 := (hr5 (w.heap.size + 1) (by (try simp); (try omega))).trans (show rowAt _ (w.heap.size + 1) = _ by go_simp; rfl); have rw_w5_2 := (hr5 (w.heap.size + 1 + 1) (by (try simp); (try omega))).trans (show rowAt _ (w.heap.size + 1 + 1) = _ by go_simp; rfl); have rw_w5_3 := (hr5 (w.heap.size + 1 + 1 + 1) (by (try simp); (try omega))).trans (show rowAt _ (w.heap.size + 1 + 1 + 1) = _ by go_simp; rfl); have HK5 := hidE hk; clear hk
  have rw_w5_0 := (hr5 (w1.heap.size) (by (try simp); (try omega))).trans (show rowAt _ (w1.heap.size) = _ by go_simp; rfl)
  have lt_w5_0 : w1.heap.size < w5.heap.size := (by have hh := (HK5.out).size; (try simp at hh); omega); have lt1_w5_0 : w1.heap.size < w5.heap.size + 1 := (by omega); have lt2_w5_0 : w1.heap.size < w5.heap.size + 1 + 1 := (by omega)
  go_wp2
  refine post_row2 rfl Try.underlying25 rfl infoS Try.underlying31 rfl infoF rfl rfl rfl (by go_simp; rfl) (by go_simp; rfl) (sa_size _) rfl ⟨by rw [HP.out]; first | done | rfl, ?_⟩
  (repeat (first | with_reducible exact Keeps.refl _ _ | (with_reducible refine Keeps.drew ?_) | (with_reducible refine Keeps.alloc ?_ _) | (with_reducible refine Keeps.setRow ?_ (fun h => absurd h (by omega)) _) | (with_reducible refine Keeps.setCell ?_ (fun h => absurd h (by simp only []; omega)) _) | (with_reducible refine Keeps.trans ?_ HK8.out) | (with_reducible refine same_then ?_ HK8.out (fun k hk => by omega)) | (with_reducible refine Keeps.trans ?_ HK7.out) | (with_reducible refine same_then ?_ HK7.out (fun k hk => by omega)) | (with_reducible refine Keeps.trans ?_ HK6.out) | (with_reducible refine same_then ?_ HK6.out (fun k hk => by omega)) | (with_reducible refine Keeps.trans ?_ HK5.out) | (with_reducible refine same_then ?_ HK5.out (fun k hk => by omega)) | (with_reducible refine Keeps.trans ?_ HK4.out) | (with_reducible refine same_then ?_ HK4.out (fun k hk => by omega)) | (with_reducible refine Keeps.trans ?_ HK3.out) | (with_reducible refine same_then ?_ HK3.out (fun k hk => by omega)) | (with_reducible refine Keeps.trans ?_ HK2.out) | (with_reducible refine same_then ?_ HK2.out (fun k hk => by omega)) | (with_reducible refine Keeps.trans ?_ HK1.out) | (with_reducible refine same_then ?_ HK1.out (fun k hk => by omega))))
end Go.Proofs.Ytdbfjgmehmbefaa
