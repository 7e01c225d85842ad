/- Package core: parted, plain, none. -/
import Derived.Test.YtdbfjgmehmbefaaCoreS
import Derived.Test.YtdbfjgmehmbefaaRa
namespace Go.Proofs.Ytdbfjgmehmbefaa
open Go.RowKit
attribute [local go_sem ↓] x_ldS x_stS x_ldI x_stI x_ldA x_stA x_ldF x_stF
attribute [local go_sem] ne_s1 en_s1 ne_s2 en_s2 ne_s3 en_s3 ne_s4 en_s4 ne_s5 en_s5 ne_s6 en_s6 ne_s7 en_s7 ne_s8 en_s8 ne_s9 en_s9 ne_s10 en_s10 ne_s11 en_s11 lt_s2 lt_s3 lt_s4 lt_s5 lt_s6 lt_s7 lt_s8 lt_s9 lt_s10 lt_s11 rowAt_at rowAt_old rowAt_drew rowAt_drewN setRow_drew setRow_at setRow_old setCell_row setRow_setRow rowAt_setRow_eq rowAt_setRow_ne cell_setRow_eq cell_setRow_ne frozen_setRow_eq frozen_setRow_ne ones_lit oc_int oc_bool oc_str oc_ptr oc_sl oc_map oc_fn oc_nf oc_ni oc_if ld_S st_S ld_I st_I ld_A st_A ld_F st_F sa_size sa_one ac_size fl_size ac_one fl_one fl_c fl_a fg_c fg_a sa_pc sa_ps sg_pc sg_ps sa_r6 sa_r7 sg_r6 sg_r7 sa_r sg_r ss_pc ss_ps ss_r6 ss_r7 ss_r st0_eq

set_option maxHeartbeats 2000000 in
set_option maxRecDepth 100000 in
theorem parted_25_0 (t s : St) (a b imm : Int) (ht : t.Ok) (a0 : 0 ≤ a) (a1 : a < 8) (b0 : 0 ≤ b) (b1 : b < 8) (hz : t.R b.toNat = 0) (w : World) :
    Calls Try.prog 76 #[.agg (stA t), .agg #[.int .u8 25, .int .u8 a, .int .u8 b, .int .i32 imm], .agg (stA s)] w fun e w' => e = .returned (.tuple #[.agg (stA (partedL t ⟨25, a, b, imm⟩ s).1), .agg (flA (partedL t ⟨25, a, b, imm⟩ s).2)]) ∧ Same w w' := by
  have h8 : b.toNat < 8 := by omega
  have h9 : a.toNat < 8 := by omega
  have q0 := ht.r0 b.toNat
  have q1 := ht.r1 b.toNat
  have p0 := ht.r0 a.toNat
  have p1 := ht.r1 a.toNat
  have HC : Hid (∀ u, Calls Try.prog 101 #[.int .u32 (t.R a.toNat), .int .u32 (t.R b.toNat)] u fun e w' => e = .returned (.tuple #[.int .u32 0, .int .u32 0, .bool false]) ∧ Same u w') := hidE (fun u => by rw [hz]; exact fl_Div_no _ u)
  have HZ := hidE hz
  clear hz
  go_enter Try.func76, Try.ntmps76
  go_wp2_with fail
  refine wp_region_ra [0, 1, 2, 3, 4, 5, 6, 7, 8, 9, 10, 11, 12, 13, 14, 15, 16, 17, 18] [] 0 (Same _) (by kernel_rfl) (by kernel_rfl) (fun u u' h k => Keeps.trans h k) (Keeps.refl _ _).drew ?_
  simp only [opsOf, List.filterMap_cons, List.filterMap_nil, List.getElem?_cons_zero, List.getElem?_cons_succ]
  repeat (refine seqV_run (v := ?_) rfl (fun u hu => ?_) ?_; rotate_left; (focus (obtain ⟨hc, hf, hr, hl, hn, hm⟩ := same_facts hu; clear hu; go_simp; first | done | with_reducible rfl)); (try simp only [Act.put, List.setIfInBounds_toArray, List.set_cons_zero, List.set_cons_succ]))
  refine seqV_call (f := 101) (args := #[.int .u32 (t.R a.toNat), .int .u32 (t.R b.toNat)]) (v := .tuple #[.int .u32 0, .int .u32 0, .bool false]) rfl (fun u hu => ?_) (fun u _ => HC.out u) ?_
  · go_simp
  simp only [Act.put, List.setIfInBounds_toArray, List.set_cons_zero, List.set_cons_succ]
  repeat (refine seqV_run (v := ?_) rfl (fun u hu => ?_) ?_; rotate_left; (focus (obtain ⟨hc, hf, hr, hl, hn, hm⟩ := same_facts hu; clear hu; go_simp; first | done | with_reducible rfl)); (try simp only [Act.put, List.setIfInBounds_toArray, List.set_cons_zero, List.set_cons_succ]))
  refine seqV_nil ?_
  refine tailR_zero fun u1 hu _ => ?_
  (obtain ⟨hc1, hf1, hr1, -, -, -⟩ := same_facts hu); have lt_u1_0 : w.heap.size < u1.heap.size := (by have hh := (hu).size; (try simp at hh); omega); have lt_u1_1 : w.heap.size + 1 < u1.heap.size := (by have hh := (hu).size; (try simp at hh); omega); have lt_u1_2 : w.heap.size + 1 + 1 < u1.heap.size := (by have hh := (hu).size; (try simp at hh); omega); have lt_u1_3 : w.heap.size + 1 + 1 + 1 < u1.heap.size := (by have hh := (hu).size; (try simp at hh); omega); have lt_u1_4 : w.heap.size + 1 + 1 + 1 + 1 < u1.heap.size := (by have hh := (hu).size; (try simp at hh); omega); have lt1_u1_0 : w.heap.size < u1.heap.size + 1 := (by omega); have lt2_u1_0 : w.heap.size < u1.heap.size + 1 + 1 := (by omega); have lt1_u1_1 : w.heap.size + 1 < u1.heap.size + 1 := (by omega); have lt2_u1_1 : w.heap.size + 1 < u1.heap.size + 1 + 1 := (by omega); have lt1_u1_2 : w.heap.size + 1 + 1 < u1.heap.size + 1 := (by omega); have lt2_u1_2 : w.heap.size + 1 + 1 < u1.heap.size + 1 + 1 := (by omega); have lt1_u1_3 : w.heap.size + 1 + 1 + 1 < u1.heap.size + 1 := (by omega); have lt2_u1_3 : w.heap.size + 1 + 1 + 1 < u1.heap.size + 1 + 1 := (by omega); have lt1_u1_4 : w.heap.size + 1 + 1 + 1 + 1 < u1.heap.size + 1 := (by omega); have lt2_u1_4 : w.heap.size + 1 + 1 + 1 + 1 < u1.heap.size + 1 + 1 := (by omega); have rw_u1_0 := (hr1 (w.heap.size) (by (try simp); (try omega))).trans (show rowAt _ (w.heap.size) = _ by go_simp; rfl); have rw_u1_1 := (hr1 (w.heap.size + 1) (by (try simp); (try omega))).trans (show rowAt _ (w.heap.size + 1) = _ by go_simp; rfl); have rw_u1_2 := (hr1 (w.heap.size + 1 + 1) (by (try simp); (try omega))).trans (show rowAt _ (w.heap.size + 1 + 1) = _ by go_simp; rfl); have rw_u1_3 := (hr1 (w.heap.size + 1 + 1 + 1) (by (try simp); (try omega))).trans (show rowAt _ (w.heap.size + 1 + 1 + 1) = _ by go_simp; rfl); have rw_u1_4 := (hr1 (w.heap.size + 1 + 1 + 1 + 1) (by (try simp); (try omega))).trans (show rowAt _ (w.heap.size + 1 + 1 + 1 + 1) = _ by go_simp; rfl); have HK1 := hidE hu; clear hu
  go_wp2_with fail
  refine post_row2 rfl Try.underlying25 rfl infoS Try.underlying31 rfl infoF rfl rfl rfl (by go_simp; rfl) (by go_simp; rfl) (sa_size _) rfl ⟨?_, ?_⟩
  · unfold partedL
    rw [if_pos HZ.out]
    rfl
  · (repeat (first | with_reducible exact Keeps.refl _ _ | (with_reducible refine Keeps.drew ?_) | (with_reducible refine Keeps.alloc ?_ _) | (with_reducible refine Keeps.setRow ?_ (fun h => absurd h (by omega)) _) | (with_reducible refine Keeps.setCell ?_ (fun h => absurd h (by simp only []; omega)) _) | (with_reducible refine Keeps.trans ?_ HK8.out) | (with_reducible refine same_then ?_ HK8.out (fun k hk => by omega)) | (with_reducible refine Keeps.trans ?_ HK7.out) | (with_reducible refine same_then ?_ HK7.out (fun k hk => by omega)) | (with_reducible refine Keeps.trans ?_ HK6.out) | (with_reducible refine same_then ?_ HK6.out (fun k hk => by omega)) | (with_reducible refine Keeps.trans ?_ HK5.out) | (with_reducible refine same_then ?_ HK5.out (fun k hk => by omega)) | (with_reducible refine Keeps.trans ?_ HK4.out) | (with_reducible refine same_then ?_ HK4.out (fun k hk => by omega)) | (with_reducible refine Keeps.trans ?_ HK3.out) | (with_reducible refine same_then ?_ HK3.out (fun k hk => by omega)) | (with_reducible refine Keeps.trans ?_ HK2.out) | (with_reducible refine same_then ?_ HK2.out (fun k hk => by omega)) | (with_reducible refine Keeps.trans ?_ HK1.out) | (with_reducible refine same_then ?_ HK1.out (fun k hk => by omega))))
set_option maxHeartbeats 2000000 in
set_option maxRecDepth 100000 in
theorem parted_25 (t s : St) (a b imm : Int) (ht : t.Ok) (a0 : 0 ≤ a) (a1 : a < 8) (b0 : 0 ≤ b) (b1 : b < 8) (hz : t.R b.toNat ≠ 0) (w : World) :
    Calls Try.prog 76 #[.agg (stA t), .agg #[.int .u8 25, .int .u8 a, .int .u8 b, .int .i32 imm], .agg (stA s)] w fun e w' => e = .returned (.tuple #[.agg (stA (partedL t ⟨25, a, b, imm⟩ s).1), .agg (flA (partedL t ⟨25, a, b, imm⟩ s).2)]) ∧ Same w w' := by
  have h8 : b.toNat < 8 := by omega
  have h9 : a.toNat < 8 := by omega
  have q0 := ht.r0 b.toNat
  have q1 := ht.r1 b.toNat
  have p0 := ht.r0 a.toNat
  have p1 := ht.r1 a.toNat
  have HC : Hid (∀ u, Calls Try.prog 101 #[.int .u32 (t.R a.toNat), .int .u32 (t.R b.toNat)] u fun e w' => e = .returned (.tuple #[.int .u32 (t.R a.toNat / t.R b.toNat), .int .u32 (zn (t.R a.toNat / t.R b.toNat)), .bool true]) ∧ Same u w') := hidE (fun u => fl_Div _ _ p0 p1 (by omega) q1 u)
  have HZ := hidE hz
  clear hz
  go_enter Try.func76, Try.ntmps76
  go_wp2_with fail
  refine wp_region_ra [0, 1, 2, 3, 4, 5, 6, 7, 8, 9, 10, 11, 12, 13, 14, 15, 16, 17, 18] [] 0 (Same _) (by kernel_rfl) (by kernel_rfl) (fun u u' h k => Keeps.trans h k) (Keeps.refl _ _).drew ?_
  simp only [opsOf, List.filterMap_cons, List.filterMap_nil, List.getElem?_cons_zero, List.getElem?_cons_succ]
  repeat (refine seqV_run (v := ?_) rfl (fun u hu => ?_) ?_; rotate_left; (focus (obtain ⟨hc, hf, hr, hl, hn, hm⟩ := same_facts hu; clear hu; go_simp; first | done | with_reducible rfl)); (try simp only [Act.put, List.setIfInBounds_toArray, List.set_cons_zero, List.set_cons_succ]))
  refine seqV_call (f := 101) (args := #[.int .u32 (t.R a.toNat), .int .u32 (t.R b.toNat)]) (v := .tuple #[.int .u32 (t.R a.toNat / t.R b.toNat), .int .u32 (zn (t.R a.toNat / t.R b.toNat)), .bool true]) rfl (fun u hu => ?_) (fun u _ => HC.out u) ?_
  · go_simp
  simp only [Act.put, List.setIfInBounds_toArray, List.set_cons_zero, List.set_cons_succ]
  repeat (refine seqV_run (v := ?_) rfl (fun u hu => ?_) ?_; rotate_left; (focus (obtain ⟨hc, hf, hr, hl, hn, hm⟩ := same_facts hu; clear hu; go_simp; first | done | with_reducible rfl)); (try simp only [Act.put, List.setIfInBounds_toArray, List.set_cons_zero, List.set_cons_succ]))
  refine seqV_nil ?_
  refine tailR_zero fun u1 hu _ => ?_
  (obtain ⟨hc1, hf1, hr1, -, -, -⟩ := same_facts hu); have lt_u1_0 : w.heap.size < u1.heap.size := (by have hh := (hu).size; (try simp at hh); omega); have lt_u1_1 : w.heap.size + 1 < u1.heap.size := (by have hh := (hu).size; (try simp at hh); omega); have lt_u1_2 : w.heap.size + 1 + 1 < u1.heap.size := (by have hh := (hu).size; (try simp at hh); omega); have lt_u1_3 : w.heap.size + 1 + 1 + 1 < u1.heap.size := (by have hh := (hu).size; (try simp at hh); omega); have lt_u1_4 : w.heap.size + 1 + 1 + 1 + 1 < u1.heap.size := (by have hh := (hu).size; (try simp at hh); omega); have lt1_u1_0 : w.heap.size < u1.heap.size + 1 := (by omega); have lt2_u1_0 : w.heap.size < u1.heap.size + 1 + 1 := (by omega); have lt1_u1_1 : w.heap.size + 1 < u1.heap.size + 1 := (by omega); have lt2_u1_1 : w.heap.size + 1 < u1.heap.size + 1 + 1 := (by omega); have lt1_u1_2 : w.heap.size + 1 + 1 < u1.heap.size + 1 := (by omega); have lt2_u1_2 : w.heap.size + 1 + 1 < u1.heap.size + 1 + 1 := (by omega); have lt1_u1_3 : w.heap.size + 1 + 1 + 1 < u1.heap.size + 1 := (by omega); have lt2_u1_3 : w.heap.size + 1 + 1 + 1 < u1.heap.size + 1 + 1 := (by omega); have lt1_u1_4 : w.heap.size + 1 + 1 + 1 + 1 < u1.heap.size + 1 := (by omega); have lt2_u1_4 : w.heap.size + 1 + 1 + 1 + 1 < u1.heap.size + 1 + 1 := (by omega); have rw_u1_0 := (hr1 (w.heap.size) (by (try simp); (try omega))).trans (show rowAt _ (w.heap.size) = _ by go_simp; rfl); have rw_u1_1 := (hr1 (w.heap.size + 1) (by (try simp); (try omega))).trans (show rowAt _ (w.heap.size + 1) = _ by go_simp; rfl); have rw_u1_2 := (hr1 (w.heap.size + 1 + 1) (by (try simp); (try omega))).trans (show rowAt _ (w.heap.size + 1 + 1) = _ by go_simp; rfl); have rw_u1_3 := (hr1 (w.heap.size + 1 + 1 + 1) (by (try simp); (try omega))).trans (show rowAt _ (w.heap.size + 1 + 1 + 1) = _ by go_simp; rfl); have rw_u1_4 := (hr1 (w.heap.size + 1 + 1 + 1 + 1) (by (try simp); (try omega))).trans (show rowAt _ (w.heap.size + 1 + 1 + 1 + 1) = _ by go_simp; rfl); have HK1 := hidE hu; clear hu
  go_wp2_with fail
  refine (turned_any _ _ _).mono ?_
  rintro e w2 ⟨rfl, hk⟩
  (obtain ⟨hc2, hf2, hr2, -, -, -⟩ := same_facts hk); have lt_w2_0 : w.heap.size < w2.heap.size := (by have hh := (hk).size; (try simp at hh); omega); have lt_w2_1 : w.heap.size + 1 < w2.heap.size := (by have hh := (hk).size; (try simp at hh); omega); have lt_w2_2 : w.heap.size + 1 + 1 < w2.heap.size := (by have hh := (hk).size; (try simp at hh); omega); have lt_w2_3 : w.heap.size + 1 + 1 + 1 < w2.heap.size := (by have hh := (hk).size; (try simp at hh); omega); have lt_w2_4 : w.heap.size + 1 + 1 + 1 + 1 < w2.heap.size := (by have hh := (hk).size; (try simp at hh); omega); have lt1_w2_0 : w.heap.size < w2.heap.size + 1 := (by omega); have lt2_w2_0 : w.heap.size < w2.heap.size + 1 + 1 := (by omega); have lt1_w2_1 : w.heap.size + 1 < w2.heap.size + 1 := (by omega); have lt2_w2_1 : w.heap.size + 1 < w2.heap.size + 1 + 1 := (by omega); have lt1_w2_2 : w.heap.size + 1 + 1 < w2.heap.size + 1 := (by omega); have lt2_w2_2 : w.heap.size + 1 + 1 < w2.heap.size + 1 + 1 := (by omega); have lt1_w2_3 : w.heap.size + 1 + 1 + 1 < w2.heap.size + 1 := (by omega); have lt2_w2_3 : w.heap.size + 1 + 1 + 1 < w2.heap.size + 1 + 1 := (by omega); have lt1_w2_4 : w.heap.size + 1 + 1 + 1 + 1 < w2.heap.size + 1 := (by omega); have lt2_w2_4 : w.heap.size + 1 + 1 + 1 + 1 < w2.heap.size + 1 + 1 := (by omega); have rw_w2_0 := (hr2 (w.heap.size) (by (try simp); (try omega))).trans (show rowAt _ (w.heap.size) = _ by go_simp; rfl); have rw_w2_1 := (hr2 (w.heap.size + 1) (by (try simp); (try omega))).trans (show rowAt _ (w.heap.size + 1) = _ by go_simp; rfl); have rw_w2_2 := (hr2 (w.heap.size + 1 + 1) (by (try simp); (try omega))).trans (show rowAt _ (w.heap.size + 1 + 1) = _ by go_simp; rfl); have rw_w2_3 := (hr2 (w.heap.size + 1 + 1 + 1) (by (try simp); (try omega))).trans (show rowAt _ (w.heap.size + 1 + 1 + 1) = _ by go_simp; rfl); have rw_w2_4 := (hr2 (w.heap.size + 1 + 1 + 1 + 1) (by (try simp); (try omega))).trans (show rowAt _ (w.heap.size + 1 + 1 + 1 + 1) = _ by go_simp; rfl); have HK2 := hidE hk; clear hk
  go_wp2
  refine post_row2 rfl Try.underlying25 rfl infoS Try.underlying31 rfl infoF rfl rfl rfl (by go_simp; rfl) (by go_simp; rfl) (sa_size _) rfl ⟨?_, ?_⟩
  · unfold partedL
    rw [if_neg HZ.out]
    rfl
  · (repeat (first | with_reducible exact Keeps.refl _ _ | (with_reducible refine Keeps.drew ?_) | (with_reducible refine Keeps.alloc ?_ _) | (with_reducible refine Keeps.setRow ?_ (fun h => absurd h (by omega)) _) | (with_reducible refine Keeps.setCell ?_ (fun h => absurd h (by simp only []; omega)) _) | (with_reducible refine Keeps.trans ?_ HK8.out) | (with_reducible refine same_then ?_ HK8.out (fun k hk => by omega)) | (with_reducible refine Keeps.trans ?_ HK7.out) | (with_reducible refine same_then ?_ HK7.out (fun k hk => by omega)) | (with_reducible refine Keeps.trans ?_ HK6.out) | (with_reducible refine same_then ?_ HK6.out (fun k hk => by omega)) | (with_reducible refine Keeps.trans ?_ HK5.out) | (with_reducible refine same_then ?_ HK5.out (fun k hk => by omega)) | (with_reducible refine Keeps.trans ?_ HK4.out) | (with_reducible refine same_then ?_ HK4.out (fun k hk => by omega)) | (with_reducible refine Keeps.trans ?_ HK3.out) | (with_reducible refine same_then ?_ HK3.out (fun k hk => by omega)) | (with_reducible refine Keeps.trans ?_ HK2.out) | (with_reducible refine same_then ?_ HK2.out (fun k hk => by omega)) | (with_reducible refine Keeps.trans ?_ HK1.out) | (with_reducible refine same_then ?_ HK1.out (fun k hk => by omega))))
set_option maxHeartbeats 2000000 in
set_option maxRecDepth 100000 in
theorem parted_30_0 (t s : St) (a b imm : Int) (ht : t.Ok) (a0 : 0 ≤ a) (a1 : a < 8) (b0 : 0 ≤ b) (b1 : b < 8) (hz : t.R b.toNat = 0) (w : World) :
    Calls Try.prog 76 #[.agg (stA t), .agg #[.int .u8 30, .int .u8 a, .int .u8 b, .int .i32 imm], .agg (stA s)] w fun e w' => e = .returned (.tuple #[.agg (stA (partedL t ⟨30, a, b, imm⟩ s).1), .agg (flA (partedL t ⟨30, a, b, imm⟩ s).2)]) ∧ Same w w' := by
  have h8 : b.toNat < 8 := by omega
  have h9 : a.toNat < 8 := by omega
  have q0 := ht.r0 b.toNat
  have q1 := ht.r1 b.toNat
  have p0 := ht.r0 a.toNat
  have p1 := ht.r1 a.toNat
  have HC : Hid (∀ u, Calls Try.prog 102 #[.int .u32 (t.R a.toNat), .int .u32 (t.R b.toNat)] u fun e w' => e = .returned (.tuple #[.int .u32 0, .int .u32 0, .bool false]) ∧ Same u w') := hidE (fun u => by rw [hz]; exact fl_Rem_no _ u)
  have HZ := hidE hz
  clear hz
  go_enter Try.func76, Try.ntmps76
  go_wp2_with fail
  refine wp_region_ra [0, 1, 2, 3, 4, 5, 6, 7, 8, 9, 10, 11, 12, 13, 14, 15, 16, 17, 18] [] 0 (Same _) (by kernel_rfl) (by kernel_rfl) (fun u u' h k => Keeps.trans h k) (Keeps.refl _ _).drew ?_
  simp only [opsOf, List.filterMap_cons, List.filterMap_nil, List.getElem?_cons_zero, List.getElem?_cons_succ]
  repeat (refine seqV_run (v := ?_) rfl (fun u hu => ?_) ?_; rotate_left; (focus (obtain ⟨hc, hf, hr, hl, hn, hm⟩ := same_facts hu; clear hu; go_simp; first | done | with_reducible rfl)); (try simp only [Act.put, List.setIfInBounds_toArray, List.set_cons_zero, List.set_cons_succ]))
  refine seqV_call (f := 102) (args := #[.int .u32 (t.R a.toNat), .int .u32 (t.R b.toNat)]) (v := .tuple #[.int .u32 0, .int .u32 0, .bool false]) rfl (fun u hu => ?_) (fun u _ => HC.out u) ?_
  · go_simp
  simp only [Act.put, List.setIfInBounds_toArray, List.set_cons_zero, List.set_cons_succ]
  repeat (refine seqV_run (v := ?_) rfl (fun u hu => ?_) ?_; rotate_left; (focus (obtain ⟨hc, hf, hr, hl, hn, hm⟩ := same_facts hu; clear hu; go_simp; first | done | with_reducible rfl)); (try simp only [Act.put, List.setIfInBounds_toArray, List.set_cons_zero, List.set_cons_succ]))
  refine seqV_nil ?_
  refine tailR_zero fun u1 hu _ => ?_
  (obtain ⟨hc1, hf1, hr1, -, -, -⟩ := same_facts hu); have lt_u1_0 : w.heap.size < u1.heap.size := (by have hh := (hu).size; (try simp at hh); omega); have lt_u1_1 : w.heap.size + 1 < u1.heap.size := (by have hh := (hu).size; (try simp at hh); omega); have lt_u1_2 : w.heap.size + 1 + 1 < u1.heap.size := (by have hh := (hu).size; (try simp at hh); omega); have lt_u1_3 : w.heap.size + 1 + 1 + 1 < u1.heap.size := (by have hh := (hu).size; (try simp at hh); omega); have lt_u1_4 : w.heap.size + 1 + 1 + 1 + 1 < u1.heap.size := (by have hh := (hu).size; (try simp at hh); omega); have lt1_u1_0 : w.heap.size < u1.heap.size + 1 := (by omega); have lt2_u1_0 : w.heap.size < u1.heap.size + 1 + 1 := (by omega); have lt1_u1_1 : w.heap.size + 1 < u1.heap.size + 1 := (by omega); have lt2_u1_1 : w.heap.size + 1 < u1.heap.size + 1 + 1 := (by omega); have lt1_u1_2 : w.heap.size + 1 + 1 < u1.heap.size + 1 := (by omega); have lt2_u1_2 : w.heap.size + 1 + 1 < u1.heap.size + 1 + 1 := (by omega); have lt1_u1_3 : w.heap.size + 1 + 1 + 1 < u1.heap.size + 1 := (by omega); have lt2_u1_3 : w.heap.size + 1 + 1 + 1 < u1.heap.size + 1 + 1 := (by omega); have lt1_u1_4 : w.heap.size + 1 + 1 + 1 + 1 < u1.heap.size + 1 := (by omega); have lt2_u1_4 : w.heap.size + 1 + 1 + 1 + 1 < u1.heap.size + 1 + 1 := (by omega); have rw_u1_0 := (hr1 (w.heap.size) (by (try simp); (try omega))).trans (show rowAt _ (w.heap.size) = _ by go_simp; rfl); have rw_u1_1 := (hr1 (w.heap.size + 1) (by (try simp); (try omega))).trans (show rowAt _ (w.heap.size + 1) = _ by go_simp; rfl); have rw_u1_2 := (hr1 (w.heap.size + 1 + 1) (by (try simp); (try omega))).trans (show rowAt _ (w.heap.size + 1 + 1) = _ by go_simp; rfl); have rw_u1_3 := (hr1 (w.heap.size + 1 + 1 + 1) (by (try simp); (try omega))).trans (show rowAt _ (w.heap.size + 1 + 1 + 1) = _ by go_simp; rfl); have rw_u1_4 := (hr1 (w.heap.size + 1 + 1 + 1 + 1) (by (try simp); (try omega))).trans (show rowAt _ (w.heap.size + 1 + 1 + 1 + 1) = _ by go_simp; rfl); have HK1 := hidE hu; clear hu
  go_wp2_with fail
  refine post_row2 rfl Try.underlying25 rfl infoS Try.underlying31 rfl infoF rfl rfl rfl (by go_simp; rfl) (by go_simp; rfl) (sa_size _) rfl ⟨?_, ?_⟩
  · unfold partedL
    rw [if_pos HZ.out]
    rfl
  · (repeat (first | with_reducible exact Keeps.refl _ _ | (with_reducible refine Keeps.drew ?_) | (with_reducible refine Keeps.alloc ?_ _) | (with_reducible refine Keeps.setRow ?_ (fun h => absurd h (by omega)) _) | (with_reducible refine Keeps.setCell ?_ (fun h => absurd h (by simp only []; omega)) _) | (with_reducible refine Keeps.trans ?_ HK8.out) | (with_reducible refine same_then ?_ HK8.out (fun k hk => by omega)) | (with_reducible refine Keeps.trans ?_ HK7.out) | (with_reducible refine same_then ?_ HK7.out (fun k hk => by omega)) | (with_reducible refine Keeps.trans ?_ HK6.out) | (with_reducible refine same_then ?_ HK6.out (fun k hk => by omega)) | (with_reducible refine Keeps.trans ?_ HK5.out) | (with_reducible refine same_then ?_ HK5.out (fun k hk => by omega)) | (with_reducible refine Keeps.trans ?_ HK4.out) | (with_reducible refine same_then ?_ HK4.out (fun k hk => by omega)) | (with_reducible refine Keeps.trans ?_ HK3.out) | (with_reducible refine same_then ?_ HK3.out (fun k hk => by omega)) | (with_reducible refine Keeps.trans ?_ HK2.out) | (with_reducible refine same_then ?_ HK2.out (fun k hk => by omega)) | (with_reducible refine Keeps.trans ?_ HK1.out) | (with_reducible refine same_then ?_ HK1.out (fun k hk => by omega))))
set_option maxHeartbeats 2000000 in
set_option maxRecDepth 100000 in
theorem parted_30 (t s : St) (a b imm : Int) (ht : t.Ok) (a0 : 0 ≤ a) (a1 : a < 8) (b0 : 0 ≤ b) (b1 : b < 8) (hz : t.R b.toNat ≠ 0) (w : World) :
    Calls Try.prog 76 #[.agg (stA t), .agg #[.int .u8 30, .int .u8 a, .int .u8 b, .int .i32 imm], .agg (stA s)] w fun e w' => e = .returned (.tuple #[.agg (stA (partedL t ⟨30, a, b, imm⟩ s).1), .agg (flA (partedL t ⟨30, a, b, imm⟩ s).2)]) ∧ Same w w' := by
  have h8 : b.toNat < 8 := by omega
  have h9 : a.toNat < 8 := by omega
  have q0 := ht.r0 b.toNat
  have q1 := ht.r1 b.toNat
  have p0 := ht.r0 a.toNat
  have p1 := ht.r1 a.toNat
  have HC : Hid (∀ u, Calls Try.prog 102 #[.int .u32 (t.R a.toNat), .int .u32 (t.R b.toNat)] u fun e w' => e = .returned (.tuple #[.int .u32 (t.R a.toNat % t.R b.toNat), .int .u32 (zn (t.R a.toNat % t.R b.toNat)), .bool true]) ∧ Same u w') := hidE (fun u => fl_Rem _ _ p0 p1 (by omega) q1 u)
  have HZ := hidE hz
  clear hz
  go_enter Try.func76, Try.ntmps76
  go_wp2_with fail
  refine wp_region_ra [0, 1, 2, 3, 4, 5, 6, 7, 8, 9, 10, 11, 12, 13, 14, 15, 16, 17, 18] [] 0 (Same _) (by kernel_rfl) (by kernel_rfl) (fun u u' h k => Keeps.trans h k) (Keeps.refl _ _).drew ?_
  simp only [opsOf, List.filterMap_cons, List.filterMap_nil, List.getElem?_cons_zero, List.getElem?_cons_succ]
  repeat (refine seqV_run (v := ?_) rfl (fun u hu => ?_) ?_; rotate_left; (focus (obtain ⟨hc, hf, hr, hl, hn, hm⟩ := same_facts hu; clear hu; go_simp; first | done | with_reducible rfl)); (try simp only [Act.put, List.setIfInBounds_toArray, List.set_cons_zero, List.set_cons_succ]))
  refine seqV_call (f := 102) (args := #[.int .u32 (t.R a.toNat), .int .u32 (t.R b.toNat)]) (v := .tuple #[.int .u32 (t.R a.toNat % t.R b.toNat), .int .u32 (zn (t.R a.toNat % t.R b.toNat)), .bool true]) rfl (fun u hu => ?_) (fun u _ => HC.out u) ?_
  · go_simp
  simp only [Act.put, List.setIfInBounds_toArray, List.set_cons_zero, List.set_cons_succ]
  repeat (refine seqV_run (v := ?_) rfl (fun u hu => ?_) ?_; rotate_left; (focus (obtain ⟨hc, hf, hr, hl, hn, hm⟩ := same_facts hu; clear hu; go_simp; first | done | with_reducible rfl)); (try simp only [Act.put, List.setIfInBounds_toArray, List.set_cons_zero, List.set_cons_succ]))
  refine seqV_nil ?_
  refine tailR_zero fun u1 hu _ => ?_
  (obtain ⟨hc1, hf1, hr1, -, -, -⟩ := same_facts hu); have lt_u1_0 : w.heap.size < u1.heap.size := (by have hh := (hu).size; (try simp at hh); omega); have lt_u1_1 : w.heap.size + 1 < u1.heap.size := (by have hh := (hu).size; (try simp at hh); omega); have lt_u1_2 : w.heap.size + 1 + 1 < u1.heap.size := (by have hh := (hu).size; (try simp at hh); omega); have lt_u1_3 : w.heap.size + 1 + 1 + 1 < u1.heap.size := (by have hh := (hu).size; (try simp at hh); omega); have lt_u1_4 : w.heap.size + 1 + 1 + 1 + 1 < u1.heap.size := (by have hh := (hu).size; (try simp at hh); omega); have lt1_u1_0 : w.heap.size < u1.heap.size + 1 := (by omega); have lt2_u1_0 : w.heap.size < u1.heap.size + 1 + 1 := (by omega); have lt1_u1_1 : w.heap.size + 1 < u1.heap.size + 1 := (by omega); have lt2_u1_1 : w.heap.size + 1 < u1.heap.size + 1 + 1 := (by omega); have lt1_u1_2 : w.heap.size + 1 + 1 < u1.heap.size + 1 := (by omega); have lt2_u1_2 : w.heap.size + 1 + 1 < u1.heap.size + 1 + 1 := (by omega); have lt1_u1_3 : w.heap.size + 1 + 1 + 1 < u1.heap.size + 1 := (by omega); have lt2_u1_3 : w.heap.size + 1 + 1 + 1 < u1.heap.size + 1 + 1 := (by omega); have lt1_u1_4 : w.heap.size + 1 + 1 + 1 + 1 < u1.heap.size + 1 := (by omega); have lt2_u1_4 : w.heap.size + 1 + 1 + 1 + 1 < u1.heap.size + 1 + 1 := (by omega); have rw_u1_0 := (hr1 (w.heap.size) (by (try simp); (try omega))).trans (show rowAt _ (w.heap.size) = _ by go_simp; rfl); have rw_u1_1 := (hr1 (w.heap.size + 1) (by (try simp); (try omega))).trans (show rowAt _ (w.heap.size + 1) = _ by go_simp; rfl); have rw_u1_2 := (hr1 (w.heap.size + 1 + 1) (by (try simp); (try omega))).trans (show rowAt _ (w.heap.size + 1 + 1) = _ by go_simp; rfl); have rw_u1_3 := (hr1 (w.heap.size + 1 + 1 + 1) (by (try simp); (try omega))).trans (show rowAt _ (w.heap.size + 1 + 1 + 1) = _ by go_simp; rfl); have rw_u1_4 := (hr1 (w.heap.size + 1 + 1 + 1 + 1) (by (try simp); (try omega))).trans (show rowAt _ (w.heap.size + 1 + 1 + 1 + 1) = _ by go_simp; rfl); have HK1 := hidE hu; clear hu
  go_wp2_with fail
  refine (turned_any _ _ _).mono ?_
  rintro e w2 ⟨rfl, hk⟩
  (obtain ⟨hc2, hf2, hr2, -, -, -⟩ := same_facts hk); have lt_w2_0 : w.heap.size < w2.heap.size := (by have hh := (hk).size; (try simp at hh); omega); have lt_w2_1 : w.heap.size + 1 < w2.heap.size := (by have hh := (hk).size; (try simp at hh); omega); have lt_w2_2 : w.heap.size + 1 + 1 < w2.heap.size := (by have hh := (hk).size; (try simp at hh); omega); have lt_w2_3 : w.heap.size + 1 + 1 + 1 < w2.heap.size := (by have hh := (hk).size; (try simp at hh); omega); have lt_w2_4 : w.heap.size + 1 + 1 + 1 + 1 < w2.heap.size := (by have hh := (hk).size; (try simp at hh); omega); have lt1_w2_0 : w.heap.size < w2.heap.size + 1 := (by omega); have lt2_w2_0 : w.heap.size < w2.heap.size + 1 + 1 := (by omega); have lt1_w2_1 : w.heap.size + 1 < w2.heap.size + 1 := (by omega); have lt2_w2_1 : w.heap.size + 1 < w2.heap.size + 1 + 1 := (by omega); have lt1_w2_2 : w.heap.size + 1 + 1 < w2.heap.size + 1 := (by omega); have lt2_w2_2 : w.heap.size + 1 + 1 < w2.heap.size + 1 + 1 := (by omega); have lt1_w2_3 : w.heap.size + 1 + 1 + 1 < w2.heap.size + 1 := (by omega); have lt2_w2_3 : w.heap.size + 1 + 1 + 1 < w2.heap.size + 1 + 1 := (by omega); have lt1_w2_4 : w.heap.size + 1 + 1 + 1 + 1 < w2.heap.size + 1 := (by omega); have lt2_w2_4 : w.heap.size + 1 + 1 + 1 + 1 < w2.heap.size + 1 + 1 := (by omega); have rw_w2_0 := (hr2 (w.heap.size) (by (try simp); (try omega))).trans (show rowAt _ (w.heap.size) = _ by go_simp; rfl); have rw_w2_1 := (hr2 (w.heap.size + 1) (by (try simp); (try omega))).trans (show rowAt _ (w.heap.size + 1) = _ by go_simp; rfl); have rw_w2_2 := (hr2 (w.heap.size + 1 + 1) (by (try simp); (try omega))).trans (show rowAt _ (w.heap.size + 1 + 1) = _ by go_simp; rfl); have rw_w2_3 := (hr2 (w.heap.size + 1 + 1 + 1) (by (try simp); (try omega))).trans (show rowAt _ (w.heap.size + 1 + 1 + 1) = _ by go_simp; rfl); have rw_w2_4 := (hr2 (w.heap.size + 1 + 1 + 1 + 1) (by (try simp); (try omega))).trans (show rowAt _ (w.heap.size + 1 + 1 + 1 + 1) = _ by go_simp; rfl); have HK2 := hidE hk; clear hk
  go_wp2
  refine post_row2 rfl Try.underlying25 rfl infoS Try.underlying31 rfl infoF rfl rfl rfl (by go_simp; rfl) (by go_simp; rfl) (sa_size _) rfl ⟨?_, ?_⟩
  · unfold partedL
    rw [if_neg HZ.out]
    rfl
  · (repeat (first | with_reducible exact Keeps.refl _ _ | (with_reducible refine Keeps.drew ?_) | (with_reducible refine Keeps.alloc ?_ _) | (with_reducible refine Keeps.setRow ?_ (fun h => absurd h (by omega)) _) | (with_reducible refine Keeps.setCell ?_ (fun h => absurd h (by simp only []; omega)) _) | (with_reducible refine Keeps.trans ?_ HK8.out) | (with_reducible refine same_then ?_ HK8.out (fun k hk => by omega)) | (with_reducible refine Keeps.trans ?_ HK7.out) | (with_reducible refine same_then ?_ HK7.out (fun k hk => by omega)) | (with_reducible refine Keeps.trans ?_ HK6.out) | (with_reducible refine same_then ?_ HK6.out (fun k hk => by omega)) | (with_reducible refine Keeps.trans ?_ HK5.out) | (with_reducible refine same_then ?_ HK5.out (fun k hk => by omega)) | (with_reducible refine Keeps.trans ?_ HK4.out) | (with_reducible refine same_then ?_ HK4.out (fun k hk => by omega)) | (with_reducible refine Keeps.trans ?_ HK3.out) | (with_reducible refine same_then ?_ HK3.out (fun k hk => by omega)) | (with_reducible refine Keeps.trans ?_ HK2.out) | (with_reducible refine same_then ?_ HK2.out (fun k hk => by omega)) | (with_reducible refine Keeps.trans ?_ HK1.out) | (with_reducible refine same_then ?_ HK1.out (fun k hk => by omega))))
end Go.Proofs.Ytdbfjgmehmbefaa
