/- The walk of the statement CacheNone. -/
import Derived.Test.YtomphgpplbekiaaGreatCnR
import Derived.Test.YtomphgpplbekiaaGreatCnP
import Derived.Test.YtomphgpplbekiaaGreatCmpC
namespace Go.Proofs.YtomphgpplbekiaaGreat
open Go.RowKit
attribute [local go_sem ↓] Go.wp_at_zero Go.wp_at_succ
attribute [local go_sem ↓] x_stKy x_stRw x_stLd x_stOu x_stRb x_stCd x_stBk x_stLk
attribute [local go_sem] st_Ky st_Rw st_Ld st_Ou st_Rb st_Cd st_Bk st_Lk ne_s1 en_s1 ne_s2 en_s2 ne_s3 en_s3 ne_s4 en_s4 ne_s5 en_s5 ne_s6 en_s6 ne_s7 en_s7 ne_s8 en_s8 lt_s2 lt_s3 lt_s4 lt_s5 lt_s6 lt_s7 lt_s8 rowAt_at rowAt_old rowAt_drew rowAt_drewN setRow_drew setRow_at setRow_old setRow_setRow rowAt_setRow_eq rowAt_setRow_ne cell_setRow_eq cell_setRow_ne frozen_setRow_eq frozen_setRow_ne ones_lit oc_int oc_bool oc_str oc_ptr oc_sl oc_map oc_fn oc_nf oc_ni oc_if
attribute [local go_sem ↓] x_neKy x_neRw x_neOu x_eqKy x_eqRw x_eqOu
attribute [local go_sem] ne_Ky ne_Rw ne_Ou eq_Ky eq_Rw eq_Ou
set_option maxRecDepth 100000 in
set_option maxHeartbeats 4000000 in
theorem cacheNone_any (w : World) (kd n k1 k2 : Int) (b : Bk) (xs : List Int) (_h : StepOk w kd n k1 k2 b xs) :
    Calls Tryz.prog 8 #[.agg (stepA kd n k1 k2 b)] w fun e w' => e = .returned (.bool true) ∧ Same w w' := by
  simp only [stepA]
  go_enter Tryz.func8, Tryz.ntmps8
  go_wp2_with fail
  obtain ⟨W, hW⟩ : ∃ W, ((w.alloc (.cells #[.int .i64 kd, .int .i64 n, .int .u32 k1, .int .u32 k2, .slice b.ia b.n b.cn, .slice b.aa b.m b.cm, .int .u32 b.next, .int .u32 b.to, .int .i64 b.fin, b.fr, b.tb] 38)).alloc (.cells #[.pointer none, .slice none 0 0, .map none, .slice none 0 0, .int .i64 0, .int .i64 0, .int .i64 0] 100)).alloc (.cells #[.pointer none, .pointer (some ⟨w.heap.size + 1, 0, none⟩)] 23) = W := ⟨_, rfl⟩
  have B1 : Hid (W.heap[w.heap.size]? = some (.cells #[.int .i64 kd, .int .i64 n, .int .u32 k1, .int .u32 k2, .slice b.ia b.n b.cn, .slice b.aa b.m b.cm, .int .u32 b.next, .int .u32 b.to, .int .i64 b.fin, b.fr, b.tb] 38 (0, 0))) := hidE (by rw [← hW]; exact block_old _ (block_old _ (block_new _ _)))
  have B2 : Hid (W.heap[w.heap.size + 1]? = some (.cells #[.pointer none, .slice none 0 0, .map none, .slice none 0 0, .int .i64 0, .int .i64 0, .int .i64 0] 100 (0, 0))) := hidE (by rw [← hW]; exact block_old _ (block_atR _ (by simp)))
  have B3 : Hid (W.heap[w.heap.size + 1 + 1]? = some (.cells #[.pointer none, .pointer (some ⟨w.heap.size + 1, 0, none⟩)] 23 (0, 0))) := hidE (by rw [← hW]; exact block_atR _ (by simp))
  have HK0 : Hid (Same w W) := hidE (by rw [← hW]; exact (((Keeps.refl _ _).alloc _).alloc _).alloc _)
  rw [hW]
  clear hW
  go_loopw [5] (fun t5 wr => ∃ k : Nat, k ≤ 2 ∧ t5 = .int .i64 (k : Int) ∧ Same W wr) (fun t5 _ => (2 - intOf t5).toNat)
  case atStart => exact ⟨0, by omega, rfl, Keeps.refl _ _⟩
  case round =>
    obtain ⟨k, hk, rfl, hs⟩ := hrel
    have HS := hidE hs
    clear hs
    rcases (show k = 0 ∨ k = 1 ∨ k = 2 by omega) with rfl | rfl | rfl
    · have HN := hidE (fun u (hu : Same W u) => (show NoC u (.pointer none) from .inl rfl))
      have c3 := cell_of (HS.out.get B3.out id)
      have c1 := cell_of (HS.out.get B1.out id)
      go_wp2_with fail
      refine (cn_flush _ (.pointer none) (HN.out _ HS.out)).mono ?_
      rintro _ w1 ⟨rfl, rfl⟩
      have hP := cn_put wr (.pointer none) k1 k2 b (HN.out _ HS.out)
      simp only [bkA] at hP
      have HP := hidE hP
      clear hP
      go_wp2_with fail
      refine HP.out.mono ?_
      rintro _ w2 ⟨rfl, hk⟩
      have HS2 := hidE (HS.out.trans hk)
      clear hk c1 c3 HP
      have c1 := cell_of (HS2.out.get B1.out id)
      go_wp2_with fail
      refine (cn_find w2 (.pointer none) k1 k2 (HN.out _ HS2.out)).mono ?_
      rintro _ w3 ⟨rfl, hk⟩
      have HS3 := hidE (HS2.out.trans hk)
      clear hk c1
      have c1 := cell_of (HS3.out.get B1.out id)
      go_wp2_with fail
      refine (cn_at w3 (.pointer none) n (HN.out _ HS3.out)).mono ?_
      rintro _ w4 ⟨rfl, hk⟩
      have HS4 := hidE (HS3.out.trans hk)
      clear hk c1
      simp only [keyZ, rowZ]
      have HS5 := hidE ((HS4.out.alloc (.cells #[.int .u32 0, .int .u32 0] 31)).alloc (.cells #[.int .i64 0, .int .u32 0, .int .i64 0, .int .i64 0] 49))
      have c1 := cell_of (HS5.out.get B1.out id)
      have R1 := hidE (block_old (.cells #[.int .i64 0, .int .u32 0, .int .i64 0, .int .i64 0] 49) (block_new w4 (.cells #[.int .u32 0, .int .u32 0] 31)))
      have R2 := hidE (block_atR (.cells #[.int .i64 0, .int .u32 0, .int .i64 0, .int .i64 0] 49) (by simp : (w4.alloc (.cells #[.int .u32 0, .int .u32 0] 31)).heap.size = w4.heap.size + 1))
      go_wp2_with fail
      obtain ⟨W5, hW5⟩ : ∃ W5, (w4.alloc (.cells #[.int .u32 0, .int .u32 0] 31)).alloc (.cells #[.int .i64 0, .int .u32 0, .int .i64 0, .int .i64 0] 49) = W5 := ⟨_, rfl⟩
      rw [hW5] at HS5 R1 R2 ⊢
      clear hW5 c1
      refine (cn_out W5 (.pointer none) n (HN.out _ HS5.out)).mono ?_
      rintro _ w6 ⟨rfl, hk⟩
      have R1' := hidE (hk.get R1.out id)
      have R2' := hidE (hk.get R2.out id)
      simp only [outZ]
      have HS6 := hidE ((HS5.out.trans hk).alloc (.cells #[.int .u32 0, .int .u32 0, .int .i64 0, .int .u32 0] 43))
      have R16 := hidE (block_old (.cells #[.int .u32 0, .int .u32 0, .int .i64 0, .int .u32 0] 43) R1'.out)
      have R26 := hidE (block_old (.cells #[.int .u32 0, .int .u32 0, .int .i64 0, .int .u32 0] 43) R2'.out)
      have R36 := hidE (block_new w6 (.cells #[.int .u32 0, .int .u32 0, .int .i64 0, .int .u32 0] 43))
      clear hk R1 R2 R1' R2' HS5
      go_wp2_with fail
      obtain ⟨W6, hW6⟩ : ∃ W6, w6.alloc (.cells #[.int .u32 0, .int .u32 0, .int .i64 0, .int .u32 0] 43) = W6 := ⟨_, rfl⟩
      rw [hW6] at HS6 R16 R26 R36 ⊢
      clear hW6
      refine (cn_counts W6 (.pointer none) (HN.out _ HS6.out)).mono ?_
      rintro _ w7 ⟨rfl, rfl⟩
      have c1 := cell_of (HS6.out.get B1.out id)
      go_wp2_with fail
      refine (cn_asks W6 (.pointer none) n (HN.out _ HS6.out)).mono ?_
      rintro _ w8 ⟨rfl, hk⟩
      have HS8 := hidE (HS6.out.trans hk)
      have R18 := hidE (hk.get R16.out id)
      have R28 := hidE (hk.get R26.out id)
      have R38 := hidE (hk.get R36.out id)
      clear hk c1 R16 R26 R36 HS6
      have s2 := same2_self 0 0
      have s4 := same4_self 0 0 0 0
      go_wp2_with fail
      refine wp_region_ra [0, 1, 2, 3, 4, 5, 6, 7, 8, 9, 10, 11, 12, 13, 14, 15, 16, 17, 18, 19, 20, 21, 22, 23, 24, 25, 26, 27, 28, 29, 30, 31, 32, 33, 34, 35, 36, 37, 38, 39, 40, 41, 42, 43, 44, 45, 46, 47, 48, 49, 50, 51, 52, 53, 54, 55, 56, 57, 58, 59, 60, 61, 62] [] 0 (Same _) (by kernel_rfl) (by kernel_rfl) (fun u u' h k => Keeps.trans h k) (Keeps.refl _ _).drew ?_; simp only [opsOf, List.filterMap_cons, List.filterMap_nil, List.getElem?_cons_zero, List.getElem?_cons_succ]
      repeat (first | (refine seqV_run (v := ?_) rfl (fun u hu => ?_) ?_; rotate_left; (focus (have d1 := cell_of (hu.get R18.out id); have d2 := cell_of (hu.get R28.out id); have d3 := cell_of (hu.get R38.out id); have d4 := cell_of ((HS8.out.trans hu).get B1.out id); clear hu; go_simp; first | done | with_reducible rfl)); (try simp only [Act.put, List.setIfInBounds_toArray, List.set_cons_zero, List.set_cons_succ])) | (refine seqV_no rfl ?_; (try simp only [Act.put, List.setIfInBounds_toArray, List.set_cons_zero, List.set_cons_succ])))
      (refine seqV_call (f := 12) (args := #[(.pointer none), .agg #[.int .u32 k1, .int .u32 k2]]) (v := .slice none 0 0) rfl (fun u hu => ?_) (fun u hu => cn_exits u (.pointer none) k1 k2 (HN.out _ (HS8.out.trans hu))) ?_; (focus (clear hu; go_simp)); (try simp only [Act.put, List.setIfInBounds_toArray, List.set_cons_zero, List.set_cons_succ]))
      repeat (first | (refine seqV_run (v := ?_) rfl (fun u hu => ?_) ?_; rotate_left; (focus (have d4 := cell_of ((HS8.out.trans hu).get B1.out id); clear hu; go_simp; first | done | with_reducible rfl)); (try simp only [Act.put, List.setIfInBounds_toArray, List.set_cons_zero, List.set_cons_succ])) | (refine seqV_no rfl ?_; (try simp only [Act.put, List.setIfInBounds_toArray, List.set_cons_zero, List.set_cons_succ])))
      (refine seqV_call (f := 36) (args := #[(.pointer none), .int .i64 n]) (v := .slice none 0 0) rfl (fun u hu => ?_) (fun u hu => cn_drop u (.pointer none) n (HN.out _ (HS8.out.trans hu))) ?_; (focus (clear hu; go_simp)); (try simp only [Act.put, List.setIfInBounds_toArray, List.set_cons_zero, List.set_cons_succ]))
      repeat (first | (refine seqV_run (v := ?_) rfl (fun u hu => ?_) ?_; rotate_left; (focus (clear hu; go_simp; first | done | with_reducible rfl)); (try simp only [Act.put, List.setIfInBounds_toArray, List.set_cons_zero, List.set_cons_succ])) | (refine seqV_no rfl ?_; (try simp only [Act.put, List.setIfInBounds_toArray, List.set_cons_zero, List.set_cons_succ])))
      (refine seqV_call (f := 11) (args := #[(.pointer none)]) (v := .slice none 0 0) rfl (fun u hu => ?_) (fun u hu => cn_keys u (.pointer none) (HN.out _ (HS8.out.trans hu))) ?_; (focus (clear hu; go_simp)); (try simp only [Act.put, List.setIfInBounds_toArray, List.set_cons_zero, List.set_cons_succ]))
      repeat (first | (refine seqV_run (v := ?_) rfl (fun u hu => ?_) ?_; rotate_left; (focus (clear hu; go_simp; first | done | with_reducible rfl)); (try simp only [Act.put, List.setIfInBounds_toArray, List.set_cons_zero, List.set_cons_succ])) | (refine seqV_no rfl ?_; (try simp only [Act.put, List.setIfInBounds_toArray, List.set_cons_zero, List.set_cons_succ])))
      (refine seqV_call (f := 34) (args := #[(.pointer none)]) (v := .slice none 0 0) rfl (fun u hu => ?_) (fun u hu => cn_frames u (.pointer none) (HN.out _ (HS8.out.trans hu))) ?_; (focus (clear hu; go_simp)); (try simp only [Act.put, List.setIfInBounds_toArray, List.set_cons_zero, List.set_cons_succ]))
      repeat (first | (refine seqV_run (v := ?_) rfl (fun u hu => ?_) ?_; rotate_left; (focus (clear hu; go_simp; first | done | with_reducible rfl)); (try simp only [Act.put, List.setIfInBounds_toArray, List.set_cons_zero, List.set_cons_succ])) | (refine seqV_no rfl ?_; (try simp only [Act.put, List.setIfInBounds_toArray, List.set_cons_zero, List.set_cons_succ])))
      (refine seqV_call (f := 19) (args := #[(.pointer none)]) (v := .int .i64 0) rfl (fun u hu => ?_) (fun u hu => (cn_used u (.pointer none) (HN.out _ (HS8.out.trans hu))).mono (by rintro _ _ ⟨rfl, rfl⟩; exact ⟨rfl, Keeps.refl _ _⟩)) ?_; (focus (clear hu; go_simp)); (try simp only [Act.put, List.setIfInBounds_toArray, List.set_cons_zero, List.set_cons_succ]))
      repeat (first | (refine seqV_run (v := ?_) rfl (fun u hu => ?_) ?_; rotate_left; (focus (clear hu; go_simp; first | done | with_reducible rfl)); (try simp only [Act.put, List.setIfInBounds_toArray, List.set_cons_zero, List.set_cons_succ])) | (refine seqV_no rfl ?_; (try simp only [Act.put, List.setIfInBounds_toArray, List.set_cons_zero, List.set_cons_succ])))
      refine seqV_nil ?_
      refine tailR_zero fun u9 hu _ => ?_
      (try simp only [Act.put, List.setIfInBounds_toArray, List.set_cons_zero, List.set_cons_succ])
      have HS9 := hidE (HS8.out.trans hu)
      have ew : IntKind.i64.wrap 0 = 0 := by decide
      clear hu
      go_wp2_with fail
      exact ⟨⟨0 + 1, by omega, by simp, HS9.out⟩, by simp only [intOf]; omega⟩
    · have HN := hidE (fun u (hu : Same W u) => (show NoC u (.pointer (some ⟨w.heap.size + 1, 0, none⟩)) from .inr ⟨_, rfl, (cell_of (hu.get B2.out id)) 0⟩))
      have c3 := cell_of (HS.out.get B3.out id)
      have c1 := cell_of (HS.out.get B1.out id)
      go_wp2_with fail
      refine (cn_flush _ (.pointer (some ⟨w.heap.size + 1, 0, none⟩)) (HN.out _ HS.out)).mono ?_
      rintro _ w1 ⟨rfl, rfl⟩
      have hP := cn_put wr (.pointer (some ⟨w.heap.size + 1, 0, none⟩)) k1 k2 b (HN.out _ HS.out)
      simp only [bkA] at hP
      have HP := hidE hP
      clear hP
      go_wp2_with fail
      refine HP.out.mono ?_
      rintro _ w2 ⟨rfl, hk⟩
      have HS2 := hidE (HS.out.trans hk)
      clear hk c1 c3 HP
      have c1 := cell_of (HS2.out.get B1.out id)
      go_wp2_with fail
      refine (cn_find w2 (.pointer (some ⟨w.heap.size + 1, 0, none⟩)) k1 k2 (HN.out _ HS2.out)).mono ?_
      rintro _ w3 ⟨rfl, hk⟩
      have HS3 := hidE (HS2.out.trans hk)
      clear hk c1
      have c1 := cell_of (HS3.out.get B1.out id)
      go_wp2_with fail
      refine (cn_at w3 (.pointer (some ⟨w.heap.size + 1, 0, none⟩)) n (HN.out _ HS3.out)).mono ?_
      rintro _ w4 ⟨rfl, hk⟩
      have HS4 := hidE (HS3.out.trans hk)
      clear hk c1
      simp only [keyZ, rowZ]
      have HS5 := hidE ((HS4.out.alloc (.cells #[.int .u32 0, .int .u32 0] 31)).alloc (.cells #[.int .i64 0, .int .u32 0, .int .i64 0, .int .i64 0] 49))
      have c1 := cell_of (HS5.out.get B1.out id)
      have R1 := hidE (block_old (.cells #[.int .i64 0, .int .u32 0, .int .i64 0, .int .i64 0] 49) (block_new w4 (.cells #[.int .u32 0, .int .u32 0] 31)))
      have R2 := hidE (block_atR (.cells #[.int .i64 0, .int .u32 0, .int .i64 0, .int .i64 0] 49) (by simp : (w4.alloc (.cells #[.int .u32 0, .int .u32 0] 31)).heap.size = w4.heap.size + 1))
      go_wp2_with fail
      obtain ⟨W5, hW5⟩ : ∃ W5, (w4.alloc (.cells #[.int .u32 0, .int .u32 0] 31)).alloc (.cells #[.int .i64 0, .int .u32 0, .int .i64 0, .int .i64 0] 49) = W5 := ⟨_, rfl⟩
      rw [hW5] at HS5 R1 R2 ⊢
      clear hW5 c1
      refine (cn_out W5 (.pointer (some ⟨w.heap.size + 1, 0, none⟩)) n (HN.out _ HS5.out)).mono ?_
      rintro _ w6 ⟨rfl, hk⟩
      have R1' := hidE (hk.get R1.out id)
      have R2' := hidE (hk.get R2.out id)
      simp only [outZ]
      have HS6 := hidE ((HS5.out.trans hk).alloc (.cells #[.int .u32 0, .int .u32 0, .int .i64 0, .int .u32 0] 43))
      have R16 := hidE (block_old (.cells #[.int .u32 0, .int .u32 0, .int .i64 0, .int .u32 0] 43) R1'.out)
      have R26 := hidE (block_old (.cells #[.int .u32 0, .int .u32 0, .int .i64 0, .int .u32 0] 43) R2'.out)
      have R36 := hidE (block_new w6 (.cells #[.int .u32 0, .int .u32 0, .int .i64 0, .int .u32 0] 43))
      clear hk R1 R2 R1' R2' HS5
      go_wp2_with fail
      obtain ⟨W6, hW6⟩ : ∃ W6, w6.alloc (.cells #[.int .u32 0, .int .u32 0, .int .i64 0, .int .u32 0] 43) = W6 := ⟨_, rfl⟩
      rw [hW6] at HS6 R16 R26 R36 ⊢
      clear hW6
      refine (cn_counts W6 (.pointer (some ⟨w.heap.size + 1, 0, none⟩)) (HN.out _ HS6.out)).mono ?_
      rintro _ w7 ⟨rfl, rfl⟩
      have c1 := cell_of (HS6.out.get B1.out id)
      go_wp2_with fail
      refine (cn_asks W6 (.pointer (some ⟨w.heap.size + 1, 0, none⟩)) n (HN.out _ HS6.out)).mono ?_
      rintro _ w8 ⟨rfl, hk⟩
      have HS8 := hidE (HS6.out.trans hk)
      have R18 := hidE (hk.get R16.out id)
      have R28 := hidE (hk.get R26.out id)
      have R38 := hidE (hk.get R36.out id)
      clear hk c1 R16 R26 R36 HS6
      have s2 := same2_self 0 0
      have s4 := same4_self 0 0 0 0
      go_wp2_with fail
      refine wp_region_ra [0, 1, 2, 3, 4, 5, 6, 7, 8, 9, 10, 11, 12, 13, 14, 15, 16, 17, 18, 19, 20, 21, 22, 23, 24, 25, 26, 27, 28, 29, 30, 31, 32, 33, 34, 35, 36, 37, 38, 39, 40, 41, 42, 43, 44, 45, 46, 47, 48, 49, 50, 51, 52, 53, 54, 55, 56, 57, 58, 59, 60, 61, 62] [] 0 (Same _) (by kernel_rfl) (by kernel_rfl) (fun u u' h k => Keeps.trans h k) (Keeps.refl _ _).drew ?_; simp only [opsOf, List.filterMap_cons, List.filterMap_nil, List.getElem?_cons_zero, List.getElem?_cons_succ]
      repeat (first | (refine seqV_run (v := ?_) rfl (fun u hu => ?_) ?_; rotate_left; (focus (have d1 := cell_of (hu.get R18.out id); have d2 := cell_of (hu.get R28.out id); have d3 := cell_of (hu.get R38.out id); have d4 := cell_of ((HS8.out.trans hu).get B1.out id); clear hu; go_simp; first | done | with_reducible rfl)); (try simp only [Act.put, List.setIfInBounds_toArray, List.set_cons_zero, List.set_cons_succ])) | (refine seqV_no rfl ?_; (try simp only [Act.put, List.setIfInBounds_toArray, List.set_cons_zero, List.set_cons_succ])))
      (refine seqV_call (f := 12) (args := #[(.pointer (some ⟨w.heap.size + 1, 0, none⟩)), .agg #[.int .u32 k1, .int .u32 k2]]) (v := .slice none 0 0) rfl (fun u hu => ?_) (fun u hu => cn_exits u (.pointer (some ⟨w.heap.size + 1, 0, none⟩)) k1 k2 (HN.out _ (HS8.out.trans hu))) ?_; (focus (clear hu; go_simp)); (try simp only [Act.put, List.setIfInBounds_toArray, List.set_cons_zero, List.set_cons_succ]))
      repeat (first | (refine seqV_run (v := ?_) rfl (fun u hu => ?_) ?_; rotate_left; (focus (have d4 := cell_of ((HS8.out.trans hu).get B1.out id); clear hu; go_simp; first | done | with_reducible rfl)); (try simp only [Act.put, List.setIfInBounds_toArray, List.set_cons_zero, List.set_cons_succ])) | (refine seqV_no rfl ?_; (try simp only [Act.put, List.setIfInBounds_toArray, List.set_cons_zero, List.set_cons_succ])))
      (refine seqV_call (f := 36) (args := #[(.pointer (some ⟨w.heap.size + 1, 0, none⟩)), .int .i64 n]) (v := .slice none 0 0) rfl (fun u hu => ?_) (fun u hu => cn_drop u (.pointer (some ⟨w.heap.size + 1, 0, none⟩)) n (HN.out _ (HS8.out.trans hu))) ?_; (focus (clear hu; go_simp)); (try simp only [Act.put, List.setIfInBounds_toArray, List.set_cons_zero, List.set_cons_succ]))
      repeat (first | (refine seqV_run (v := ?_) rfl (fun u hu => ?_) ?_; rotate_left; (focus (clear hu; go_simp; first | done | with_reducible rfl)); (try simp only [Act.put, List.setIfInBounds_toArray, List.set_cons_zero, List.set_cons_succ])) | (refine seqV_no rfl ?_; (try simp only [Act.put, List.setIfInBounds_toArray, List.set_cons_zero, List.set_cons_succ])))
      (refine seqV_call (f := 11) (args := #[(.pointer (some ⟨w.heap.size + 1, 0, none⟩))]) (v := .slice none 0 0) rfl (fun u hu => ?_) (fun u hu => cn_keys u (.pointer (some ⟨w.heap.size + 1, 0, none⟩)) (HN.out _ (HS8.out.trans hu))) ?_; (focus (clear hu; go_simp)); (try simp only [Act.put, List.setIfInBounds_toArray, List.set_cons_zero, List.set_cons_succ]))
      repeat (first | (refine seqV_run (v := ?_) rfl (fun u hu => ?_) ?_; rotate_left; (focus (clear hu; go_simp; first | done | with_reducible rfl)); (try simp only [Act.put, List.setIfInBounds_toArray, List.set_cons_zero, List.set_cons_succ])) | (refine seqV_no rfl ?_; (try simp only [Act.put, List.setIfInBounds_toArray, List.set_cons_zero, List.set_cons_succ])))
      (refine seqV_call (f := 34) (args := #[(.pointer (some ⟨w.heap.size + 1, 0, none⟩))]) (v := .slice none 0 0) rfl (fun u hu => ?_) (fun u hu => cn_frames u (.pointer (some ⟨w.heap.size + 1, 0, none⟩)) (HN.out _ (HS8.out.trans hu))) ?_; (focus (clear hu; go_simp)); (try simp only [Act.put, List.setIfInBounds_toArray, List.set_cons_zero, List.set_cons_succ]))
      repeat (first | (refine seqV_run (v := ?_) rfl (fun u hu => ?_) ?_; rotate_left; (focus (clear hu; go_simp; first | done | with_reducible rfl)); (try simp only [Act.put, List.setIfInBounds_toArray, List.set_cons_zero, List.set_cons_succ])) | (refine seqV_no rfl ?_; (try simp only [Act.put, List.setIfInBounds_toArray, List.set_cons_zero, List.set_cons_succ])))
      (refine seqV_call (f := 19) (args := #[(.pointer (some ⟨w.heap.size + 1, 0, none⟩))]) (v := .int .i64 0) rfl (fun u hu => ?_) (fun u hu => (cn_used u (.pointer (some ⟨w.heap.size + 1, 0, none⟩)) (HN.out _ (HS8.out.trans hu))).mono (by rintro _ _ ⟨rfl, rfl⟩; exact ⟨rfl, Keeps.refl _ _⟩)) ?_; (focus (clear hu; go_simp)); (try simp only [Act.put, List.setIfInBounds_toArray, List.set_cons_zero, List.set_cons_succ]))
      repeat (first | (refine seqV_run (v := ?_) rfl (fun u hu => ?_) ?_; rotate_left; (focus (clear hu; go_simp; first | done | with_reducible rfl)); (try simp only [Act.put, List.setIfInBounds_toArray, List.set_cons_zero, List.set_cons_succ])) | (refine seqV_no rfl ?_; (try simp only [Act.put, List.setIfInBounds_toArray, List.set_cons_zero, List.set_cons_succ])))
      refine seqV_nil ?_
      refine tailR_zero fun u9 hu _ => ?_
      (try simp only [Act.put, List.setIfInBounds_toArray, List.set_cons_zero, List.set_cons_succ])
      have HS9 := hidE (HS8.out.trans hu)
      have ew : IntKind.i64.wrap 0 = 0 := by decide
      clear hu
      go_wp2_with fail
      exact ⟨⟨1 + 1, by omega, by simp, HS9.out⟩, by simp only [intOf]; omega⟩
    · go_wp2_with fail
      refine (cs_new_nil wr).mono ?_
      rintro _ w1 ⟨rfl, rfl⟩
      go_wp2_with fail
      refine (works22 wr).mono ?_
      rintro _ w2 ⟨rfl, hk⟩
      have HS2 := hidE (HK0.out.trans (HS.out.trans hk))
      clear hk
      go_wp2
      go_ret
      exact ⟨rfl, HS2.out⟩
theorem cacheNone_walk (w : World) (s0 : Array Value) (h0 : RdV Tryz.prog w 38 s0.toList) :
    Calls Tryz.prog 8 #[.agg s0] w fun e w' => e = .returned (.bool true) ∧ Below w.heap.size w w' := by
  obtain ⟨kd, n, k1, k2, b, xs, e, h⟩ := step_open h0
  have e' : s0 = stepA kd n k1 k2 b := by rw [← Array.toArray_toList (xs := s0), e]
  subst e'
  exact (cacheNone_any w kd n k1 k2 b xs h).mono fun e w' h => ⟨h.1, same_below h.2⟩
end Go.Proofs.YtomphgpplbekiaaGreat
