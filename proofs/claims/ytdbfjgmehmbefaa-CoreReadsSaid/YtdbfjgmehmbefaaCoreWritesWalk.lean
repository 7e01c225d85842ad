/- The walk of the statement CoreWrites. -/
import Derived.Test.YtdbfjgmehmbefaaWr
import Derived.LoopTactic
namespace Go.Proofs.Ytdbfjgmehmbefaa
open Go.RowKit
attribute [local go_sem ↓] x_ldS x_stS x_ldI x_stI x_ldA x_stA x_ldF x_stF
attribute [local go_sem] ne_s1 en_s1 ne_s2 en_s2 ne_s3 en_s3 ne_s4 en_s4 ne_s5 en_s5 ne_s6 en_s6 ne_s7 en_s7 ne_s8 en_s8 ne_s9 en_s9 ne_s10 en_s10 ne_s11 en_s11 lt_s2 lt_s3 lt_s4 lt_s5 lt_s6 lt_s7 lt_s8 lt_s9 lt_s10 lt_s11 rowAt_at rowAt_old rowAt_drew rowAt_drewN setRow_drew setRow_at setRow_old setCell_row setRow_setRow rowAt_setRow_eq rowAt_setRow_ne cell_setRow_eq cell_setRow_ne frozen_setRow_eq frozen_setRow_ne ones_lit oc_int oc_bool oc_str oc_ptr oc_sl oc_map oc_fn oc_nf oc_ni oc_if ld_S st_S ld_I st_I ld_A st_A ld_F st_F sa_size sa_one ac_size fl_size ac_one fl_one fl_c fl_a fg_c fg_a sa_pc sa_ps sg_pc sg_ps sa_r6 sa_r7 sg_r6 sg_r7 sa_r sg_r ss_pc ss_ps ss_r6 ss_r7 ss_r st0_eq
attribute [local go_sem ↓] x_eqS
attribute [local go_sem] eq_S
theorem sa_c0 (s : St) : (stA s)[10]? = some (.int .u32 (s.C 0)) := rfl
theorem sg_c0 (s : St) (h) : (stA s)[10]'h = .int .u32 (s.C 0) := rfl
theorem sa_c1 (s : St) : (stA s)[11]? = some (.int .u32 (s.C 1)) := rfl
theorem sg_c1 (s : St) (h) : (stA s)[11]'h = .int .u32 (s.C 1) := rfl
theorem sa_c2 (s : St) : (stA s)[12]? = some (.int .u32 (s.C 2)) := rfl
theorem sg_c2 (s : St) (h) : (stA s)[12]'h = .int .u32 (s.C 2) := rfl
theorem sa_c3 (s : St) : (stA s)[13]? = some (.int .u32 (s.C 3)) := rfl
theorem sg_c3 (s : St) (h) : (stA s)[13]'h = .int .u32 (s.C 3) := rfl
theorem sa_c4 (s : St) : (stA s)[14]? = some (.int .u32 (s.C 4)) := rfl
theorem sg_c4 (s : St) (h) : (stA s)[14]'h = .int .u32 (s.C 4) := rfl
theorem sa_c5 (s : St) : (stA s)[15]? = some (.int .u32 (s.C 5)) := rfl
theorem sg_c5 (s : St) (h) : (stA s)[15]'h = .int .u32 (s.C 5) := rfl
theorem sa_c6 (s : St) : (stA s)[16]? = some (.int .u32 (s.C 6)) := rfl
theorem sg_c6 (s : St) (h) : (stA s)[16]'h = .int .u32 (s.C 6) := rfl
theorem sa_c7 (s : St) : (stA s)[17]? = some (.int .u32 (s.C 7)) := rfl
theorem sg_c7 (s : St) (h) : (stA s)[17]'h = .int .u32 (s.C 7) := rfl
theorem sa_hl (s : St) : (stA s)[18]? = some (.bool s.hl) := rfl
theorem sg_hl (s : St) (h) : (stA s)[18]'h = .bool s.hl := rfl
attribute [local go_sem] sa_c0 sg_c0 sa_c1 sg_c1 sa_c2 sg_c2 sa_c3 sg_c3 sa_c4 sg_c4 sa_c5 sg_c5 sa_c6 sg_c6 sa_c7 sg_c7 sa_hl sg_hl
theorem row_cells {w : World} {k : Nat} {A : Array Value} (h : rowAt w k = A) (hs : 0 < A.size) : (∀ o, w.cell? ⟨k, o, none⟩ = A[o]?) ∧ (∀ o, w.frozen? ⟨k, o, none⟩ = false) := by
  subst h
  obtain ⟨t, hb⟩ := block_row0 hs
  exact ⟨fun o => cell_of hb o, fun o => frozen_of hb o⟩
theorem u8_one (x : Int) (h0 : 0 ≤ x) (h1 : x < 256) : bits .and .u8 x 1 = x % 2 := by
  rw [u8_and x 1 h0 h1 (by omega) (by omega)]
  rw [show Int.toNat 1 = 1 from rfl, nat_mask1]; omega
set_option maxHeartbeats 2000000 in
set_option maxRecDepth 100000 in
theorem writes_fault (s : St) (i : In) (v : Int) (hs : s.Ok) (hi : i.Ok) (v0 : 0 ≤ v) (v1 : v < 4294967296) (h : (doL s i v).2.c ≠ 0) (w : World) :
    Calls Try.prog 8 #[.agg (stA s), .agg (inA i), .int .u32 v] w fun e w' => e = .returned (.bool true) ∧ Same w w' := by
  have HD := hidE (fun w => do_any s i v hs hi v0 v1 w)
  have hl := (fails_law s i v h).1
  generalize doL s i v = D at *
  obtain ⟨D1, ⟨D2, D3⟩⟩ := D
  obtain ⟨op, a, b, imm⟩ := i
  simp only [inA] at *
  subst hl
  have hx : (D2 != 0) = true := bne_iff_ne.mpr h
  clear hs hi h
  go_enter Try.func8, Try.ntmps8
  go_wp2_with fail
  refine (HD.out _).mono ?_
  rintro e w1 ⟨rfl, hk⟩
  (obtain ⟨hc1, hf1, hr1, -, -, -⟩ := same_facts hk); have lt_w1_0 : w.heap.size < w1.heap.size := (by have hh := (hk).size; (try simp at hh); omega); have lt_w1_1 : w.heap.size + 1 < w1.heap.size := (by have hh := (hk).size; (try simp at hh); omega); have lt1_w1_0 : w.heap.size < w1.heap.size + 1 := (by omega); have lt2_w1_0 : w.heap.size < w1.heap.size + 1 + 1 := (by omega); have lt1_w1_1 : w.heap.size + 1 < w1.heap.size + 1 := (by omega); have lt2_w1_1 : w.heap.size + 1 < w1.heap.size + 1 + 1 := (by omega); have rw_w1_0 := (hr1 (w.heap.size) (by (try simp); (try omega))).trans (show rowAt _ (w.heap.size) = _ by go_simp; rfl); have rw_w1_1 := (hr1 (w.heap.size + 1) (by (try simp); (try omega))).trans (show rowAt _ (w.heap.size + 1) = _ by go_simp; rfl); have HK1 := hidE hk; clear hk
  go_wp2_with fail
  refine (works8 _).mono ?_
  rintro e w9 ⟨rfl, hk⟩
  have HK9 := hidE hk
  clear hk
  go_wp2
  go_ret
  refine ⟨rfl, ?_⟩
  refine Keeps.trans ?_ HK9.out
  (repeat (first | with_reducible exact Keeps.refl _ _ | (with_reducible refine Keeps.drew ?_) | (with_reducible refine Keeps.alloc ?_ _) | (with_reducible refine Keeps.setRow ?_ (fun h => absurd h (by omega)) _) | (with_reducible refine Keeps.setCell ?_ (fun h => absurd h (by simp only []; omega)) _) | (with_reducible refine Keeps.trans ?_ HK8.out) | (with_reducible refine same_then ?_ HK8.out (fun k hk => by omega)) | (with_reducible refine Keeps.trans ?_ HK7.out) | (with_reducible refine same_then ?_ HK7.out (fun k hk => by omega)) | (with_reducible refine Keeps.trans ?_ HK6.out) | (with_reducible refine same_then ?_ HK6.out (fun k hk => by omega)) | (with_reducible refine Keeps.trans ?_ HK5.out) | (with_reducible refine same_then ?_ HK5.out (fun k hk => by omega)) | (with_reducible refine Keeps.trans ?_ HK4.out) | (with_reducible refine same_then ?_ HK4.out (fun k hk => by omega)) | (with_reducible refine Keeps.trans ?_ HK3.out) | (with_reducible refine same_then ?_ HK3.out (fun k hk => by omega)) | (with_reducible refine Keeps.trans ?_ HK2.out) | (with_reducible refine same_then ?_ HK2.out (fun k hk => by omega)) | (with_reducible refine Keeps.trans ?_ HK1.out) | (with_reducible refine same_then ?_ HK1.out (fun k hk => by omega))))
set_option maxHeartbeats 2000000 in
set_option maxRecDepth 100000 in
theorem writes_yes (s : St) (i : In) (v : Int) (hs : s.Ok) (hi : i.Ok) (v0 : 0 ≤ v) (v1 : v < 4294967296) (h : (doL s i v).2.c = 0) (w : World) :
    Calls Try.prog 8 #[.agg (stA s), .agg (inA i), .int .u32 v] w fun e w' => e = .returned (.bool true) ∧ Same w w' := by
  have HD := hidE (fun w => do_any s i v hs hi v0 v1 w)
  have hw := wr_law s i v hs h
  have hn : noneB i = false := by
    cases hh : noneB i
    · rfl
    · unfold doL at h; rw [if_pos hh] at h; simp at h
  have hm := none_may_of hn
  obtain ⟨a1, b1⟩ := may_regs hm
  have a0 := hi.a0
  have b0 := hi.b0
  have HMW : Hid (setL i ALP (regW i.a i.b) = accL ALP (kindM i.op).2 (regW i.a i.b) 3) := hidE (by unfold setL; rw [if_pos (may_host hm)])
  have hbd := accL_bd ALP (kindM i.op).2 (regW i.a i.b) 3
  have HW := hidE (fun w tb htb ht => writes_ok w tb htb i hi ht)
  rw [HMW.out] at HW
  have HTU := hidE (fun w tb ht => turns_ok w tb i.op hi.o0 hi.o1 ht)
  have HBIT : Hid (∀ n, n < 8 → (doL s i v).1.R n ≠ s.R n → (bits .and .u8 (accL ALP (kindM i.op).2 (regW i.a i.b) 3 / 2 ^ n) 1 == 0) = false) := hidE (fun n hn hne => by
    have h1 := (ALP_bits (kindM i.op).2 i.a i.b a0 a1 b0 b1 n).2 (hw.r n hne)
    have h0 : 0 ≤ accL ALP (kindM i.op).2 (regW i.a i.b) 3 / 2 ^ n := Int.ediv_nonneg hbd.1 (Int.pow_nonneg (by omega))
    have h2 : accL ALP (kindM i.op).2 (regW i.a i.b) 3 / 2 ^ n ≤ accL ALP (kindM i.op).2 (regW i.a i.b) 3 := Int.ediv_le_self _ hbd.1
    rw [u8_one _ h0 (by omega), h1]; rfl)
  have HPS : Hid ((doL s i v).1.ps ≠ s.ps → hasB (kindM i.op).2 102 = true) := hidE hw.f
  have hC := hw.c
  have hH := hw.h
  have hM := hw.m
  clear hw hn hm a0 a1 b0 b1 HMW
  generalize accL ALP (kindM i.op).2 (regW i.a i.b) 3 = M at *
  generalize hasB (kindM i.op).2 102 = TU at *
  generalize doL s i v = D at *
  obtain ⟨D1, ⟨D2, D3⟩⟩ := D
  simp only at HD HBIT HPS hC hH hM h
  subst h
  have HEQ : Hid (∀ u, (Op.equalIn 10000 23 (.agg #[.int .u32 (s.C 0), .int .u32 (s.C 1), .int .u32 (s.C 2), .int .u32 (s.C 3), .int .u32 (s.C 4), .int .u32 (s.C 5), .int .u32 (s.C 6), .int .u32 (s.C 7)]) (.agg #[.int .u32 (s.C 0), .int .u32 (s.C 1), .int .u32 (s.C 2), .int .u32 (s.C 3), .int .u32 (s.C 4), .int .u32 (s.C 5), .int .u32 (s.C 6), .int .u32 (s.C 7)])).run Try.prog u = .ok true u) := hidE (fun u => run_eq_8 9998 _ _ _ _ _ _ _ _ u)
  have HC := hidE hC
  have HH := hidE hH
  have HM := hidE hM
  obtain ⟨op, a, b, imm⟩ := i
  simp only [inA] at *
  clear hs hi hC hH hM
  go_enter Try.func8, Try.ntmps8
  go_wp2_with fail
  refine (HD.out _).mono ?_
  rintro e w1 ⟨rfl, hk⟩
  (obtain ⟨hc1, hf1, hr1, -, -, -⟩ := same_facts hk); have lt_w1_0 : w.heap.size < w1.heap.size := (by have hh := (hk).size; (try simp at hh); omega); have lt_w1_1 : w.heap.size + 1 < w1.heap.size := (by have hh := (hk).size; (try simp at hh); omega); have lt1_w1_0 : w.heap.size < w1.heap.size + 1 := (by omega); have lt2_w1_0 : w.heap.size < w1.heap.size + 1 + 1 := (by omega); have lt1_w1_1 : w.heap.size + 1 < w1.heap.size + 1 := (by omega); have lt2_w1_1 : w.heap.size + 1 < w1.heap.size + 1 + 1 := (by omega); have rw_w1_0 := (hr1 (w.heap.size) (by (try simp); (try omega))).trans (show rowAt _ (w.heap.size) = _ by go_simp; rfl); have rw_w1_1 := (hr1 (w.heap.size + 1) (by (try simp); (try omega))).trans (show rowAt _ (w.heap.size + 1) = _ by go_simp; rfl); have HK1 := hidE hk; clear hk
  go_wp2_with fail
  refine (kind_new _).mono ?_
  rintro e w2 ⟨rfl, htn, hk⟩
  (obtain ⟨hc2, hf2, hr2, -, -, -⟩ := same_facts hk); have lt_w2_0 : w1.heap.size < w2.heap.size := (by have hh := (hk).size; (try simp at hh); omega); have lt_w2_1 : w1.heap.size + 1 < w2.heap.size := (by have hh := (hk).size; (try simp at hh); omega); have lt1_w2_0 : w1.heap.size < w2.heap.size + 1 := (by omega); have lt2_w2_0 : w1.heap.size < w2.heap.size + 1 + 1 := (by omega); have lt1_w2_1 : w1.heap.size + 1 < w2.heap.size + 1 := (by omega); have lt2_w2_1 : w1.heap.size + 1 < w2.heap.size + 1 + 1 := (by omega); have rw_w2_0 := (hr2 (w1.heap.size) (by (try simp); (try omega))).trans (show rowAt _ (w1.heap.size) = _ by go_simp; rfl); have rw_w2_1 := (hr2 (w1.heap.size + 1) (by (try simp); (try omega))).trans (show rowAt _ (w1.heap.size + 1) = _ by go_simp; rfl); have HK2 := hidE hk; clear hk
  have lt_w2_0 : w.heap.size < w2.heap.size := (by have hh := (HK2.out).size; (try simp at hh); omega); have lt_w2_1 : w.heap.size + 1 < w2.heap.size := (by have hh := (HK2.out).size; (try simp at hh); omega); have lt1_w2_0 : w.heap.size < w2.heap.size + 1 := (by omega); have lt2_w2_0 : w.heap.size < w2.heap.size + 1 + 1 := (by omega); have lt1_w2_1 : w.heap.size + 1 < w2.heap.size + 1 := (by omega); have lt2_w2_1 : w.heap.size + 1 < w2.heap.size + 1 + 1 := (by omega)
  have nn_w1_0_0 : w.heap.size ≠ w1.heap.size := (by omega); have mm_w1_0_0 : w1.heap.size ≠ w.heap.size := (by omega); have nn_w1_1_0 : w.heap.size ≠ w1.heap.size + 1 := (by omega); have mm_w1_1_0 : w1.heap.size + 1 ≠ w.heap.size := (by omega); have nn_w1_2_0 : w.heap.size ≠ w1.heap.size + 1 + 1 := (by omega); have mm_w1_2_0 : w1.heap.size + 1 + 1 ≠ w.heap.size := (by omega); have nn_w1_0_1 : w.heap.size + 1 ≠ w1.heap.size := (by omega); have mm_w1_0_1 : w1.heap.size ≠ w.heap.size + 1 := (by omega); have nn_w1_1_1 : w.heap.size + 1 ≠ w1.heap.size + 1 := (by omega); have mm_w1_1_1 : w1.heap.size + 1 ≠ w.heap.size + 1 := (by omega); have nn_w1_2_1 : w.heap.size + 1 ≠ w1.heap.size + 1 + 1 := (by omega); have mm_w1_2_1 : w1.heap.size + 1 + 1 ≠ w.heap.size + 1 := (by omega)
  simp only [World.size_alloc] at htn
  have HT := hidE htn
  clear htn
  have rw_w2_0 := (hr2 (w.heap.size) (by (try simp); (try omega))).trans (show rowAt _ (w.heap.size) = _ by go_simp; rfl); have rw_w2_1 := (hr2 (w.heap.size + 1) (by (try simp); (try omega))).trans (show rowAt _ (w.heap.size + 1) = _ by go_simp; rfl)
  have ltb : w1.heap.size + 1 + 1 < w2.heap.size := by
    have h := lt_of_block HT.out
    exact h
  go_wp2_with fail
  refine (HW.out _ _ ltb (.inl HT.out)).mono ?_
  rintro e w3 ⟨rfl, hk, ht⟩
  obtain ⟨hc3, hf3, hr3⟩ := keeps_factsR hk
  have lt_w3_0 : w1.heap.size < w3.heap.size := (by have hh := (hk).size; (try simp at hh); omega); have lt_w3_1 : w1.heap.size + 1 < w3.heap.size := (by have hh := (hk).size; (try simp at hh); omega); have lt_w3_2 : w1.heap.size + 1 + 1 < w3.heap.size := (by have hh := (hk).size; (try simp at hh); omega); have lt1_w3_0 : w1.heap.size < w3.heap.size + 1 := (by omega); have lt2_w3_0 : w1.heap.size < w3.heap.size + 1 + 1 := (by omega); have lt1_w3_1 : w1.heap.size + 1 < w3.heap.size + 1 := (by omega); have lt2_w3_1 : w1.heap.size + 1 < w3.heap.size + 1 + 1 := (by omega); have lt1_w3_2 : w1.heap.size + 1 + 1 < w3.heap.size + 1 := (by omega); have lt2_w3_2 : w1.heap.size + 1 + 1 < w3.heap.size + 1 + 1 := (by omega)
  have lt_w3_0 : w.heap.size < w3.heap.size := (by have hh := (hk).size; (try simp at hh); omega); have lt_w3_1 : w.heap.size + 1 < w3.heap.size := (by have hh := (hk).size; (try simp at hh); omega); have lt1_w3_0 : w.heap.size < w3.heap.size + 1 := (by omega); have lt2_w3_0 : w.heap.size < w3.heap.size + 1 + 1 := (by omega); have lt1_w3_1 : w.heap.size + 1 < w3.heap.size + 1 := (by omega); have lt2_w3_1 : w.heap.size + 1 < w3.heap.size + 1 + 1 := (by omega)
  have HK3 := hidE hk
  have HT3 := hidE ht
  clear hk ht
  go_wp2_with fail
  have q0 : rowAt w3 w.heap.size = stA s := (hr3 w.heap.size (by (try simp); (try omega)) (by omega)).trans (show rowAt _ _ = _ by go_simp)
  have q1 : rowAt w3 (w.heap.size + 1) = _ := (hr3 (w.heap.size + 1) (by (try simp); (try omega)) (by omega)).trans (show rowAt _ _ = #[.int .u8 op, .int .u8 a, .int .u8 b, .int .i32 imm] by go_simp)
  have q2 : rowAt w3 w1.heap.size = stA D1 := (hr3 w1.heap.size (by (try simp); (try omega)) (by omega)).trans (show rowAt _ _ = _ by go_simp)
  obtain ⟨c0, -⟩ := row_cells q0 (by rw [sa_size]; omega)
  obtain ⟨c1, -⟩ := row_cells q1 (by simp)
  obtain ⟨c2, -⟩ := row_cells q2 (by rw [sa_size]; omega)
  have L0 : w.heap.size < w3.heap.size := by omega
  have L1 : w.heap.size + 1 < w3.heap.size := by omega
  have L2 : w1.heap.size < w3.heap.size := by omega
  go_loopw [11] (fun t11 wr => ∃ k : Nat, k ≤ 8 ∧ t11 = .int .i64 k ∧ Hid (Same w3 wr)) (fun t11 _ => 8 - (intOf t11).toNat)
  case atStart => exact ⟨0, by omega, rfl, hidE (Keeps.refl _ _)⟩
  case round =>
    obtain ⟨k, hk, rfl, HKr⟩ := hrel
    obtain ⟨hcr, hfr, hrr, -, -, -⟩ := same_facts HKr.out
    have lr0 : w.heap.size < wr.heap.size := by have := HKr.out.size; omega
    have lr1 : w.heap.size + 1 < wr.heap.size := by have := HKr.out.size; omega
    have lr2 : w1.heap.size < wr.heap.size := by have := HKr.out.size; omega
    by_cases hlt : k < 8
    · by_cases e : D1.R k = s.R k
      · have e1 : (D1.R k != s.R k) = false := by simp [e]
        go_wp2_with fail
        refine wp_region_ra [0, 1, 2, 3, 4, 5, 6, 7, 8, 9, 10, 11, 12, 13, 14, 15] [] 0 (Same _) (by kernel_rfl) (by kernel_rfl) (fun u u' h k => Keeps.trans h k) (Keeps.refl _ _).drew ?_
        simp only [opsOf, List.filterMap_cons, List.filterMap_nil, List.getElem?_cons_zero, List.getElem?_cons_succ]
        repeat (first | (refine seqV_run (v := ?_) rfl (fun u hu => ?_) ?_; rotate_left; (focus (obtain ⟨hc, hf, hr, hl, hn, hm⟩ := same_facts hu; clear hu; go_simp; first | done | with_reducible rfl)); (try simp only [Act.put, List.setIfInBounds_toArray, List.set_cons_zero, List.set_cons_succ])) | (refine seqV_no rfl ?_; simp only [Act.put, List.setIfInBounds_toArray, List.set_cons_zero, List.set_cons_succ]))
        refine seqV_nil ?_
        refine tailR_zero fun u1 hu _ => ?_
        have HK5 := hidE hu
        clear hu
        go_wp2
        go_roundw
        case rel => exact ⟨k + 1, by omega, by go_num, hidE (HKr.out.trans HK5.out)⟩
        case measure => simp [intOf]; omega
      · have e1 : (D1.R k != s.R k) = true := bne_iff_ne.mpr e
        have e2 := HBIT.out k hlt e
        go_wp2_with fail
        refine wp_region_ra [0, 1, 2, 3, 4, 5, 6, 7, 8, 9, 10, 11, 12, 13, 14, 15] [] 0 (Same _) (by kernel_rfl) (by kernel_rfl) (fun u u' h k => Keeps.trans h k) (Keeps.refl _ _).drew ?_
        simp only [opsOf, List.filterMap_cons, List.filterMap_nil, List.getElem?_cons_zero, List.getElem?_cons_succ]
        repeat (first | (refine seqV_run (v := ?_) rfl (fun u hu => ?_) ?_; rotate_left; (focus (obtain ⟨hc, hf, hr, hl, hn, hm⟩ := same_facts hu; clear hu; go_simp; first | done | with_reducible rfl)); (try simp only [Act.put, List.setIfInBounds_toArray, List.set_cons_zero, List.set_cons_succ])) | (refine seqV_no rfl ?_; simp only [Act.put, List.setIfInBounds_toArray, List.set_cons_zero, List.set_cons_succ]))
        refine seqV_nil ?_
        refine tailR_zero fun u1 hu _ => ?_
        have HK5 := hidE hu
        clear hu
        go_wp2
        go_roundw
        case rel => exact ⟨k + 1, by omega, by go_num, hidE (HKr.out.trans HK5.out)⟩
        case measure => simp [intOf]; omega
    · obtain rfl : k = 8 := by omega
      have hC := HC.out
      have hH := HH.out
      have hM := HM.out
      have hq := HEQ.out
      have hg : Try.prog.eqGuardType Try.prog.depth 23 = false := by kernel_rfl
      by_cases e : D1.ps = s.ps
      · have e1 : (D1.ps != s.ps) = false := by simp [e]
        go_wp2_with fail
        refine (works8 _).mono ?_
        rintro e w9 ⟨rfl, hk⟩
        have HK9 := hidE hk
        clear hk
        go_wp2
        go_ret
        refine ⟨rfl, ?_⟩
        refine Keeps.trans ?_ HK9.out
        refine Keeps.trans ?_ HKr.out
        (repeat (first | with_reducible exact Keeps.refl _ _ | (with_reducible refine Keeps.drew ?_) | (with_reducible refine Keeps.alloc ?_ _) | (with_reducible refine Keeps.setRow ?_ (fun h => absurd h (by omega)) _) | (with_reducible refine Keeps.setCell ?_ (fun h => absurd h (by simp only []; omega)) _) | (with_reducible refine Keeps.trans ?_ HK8.out) | (with_reducible refine same_then ?_ HK8.out (fun k hk => by omega)) | (with_reducible refine Keeps.trans ?_ HK7.out) | (with_reducible refine same_then ?_ HK7.out (fun k hk => by omega)) | (with_reducible refine Keeps.trans ?_ HK6.out) | (with_reducible refine same_then ?_ HK6.out (fun k hk => by omega)) | (with_reducible refine Keeps.trans ?_ HK5.out) | (with_reducible refine same_then ?_ HK5.out (fun k hk => by omega)) | (with_reducible refine Keeps.trans ?_ HK4.out) | (with_reducible refine same_then ?_ HK4.out (fun k hk => by omega)) | (with_reducible refine Keeps.trans ?_ HK3.out) | (with_reducible refine same_then ?_ HK3.out (fun k hk => by omega)) | (with_reducible refine Keeps.trans ?_ HK2.out) | (with_reducible refine same_then ?_ HK2.out (fun k hk => by omega)) | (with_reducible refine Keeps.trans ?_ HK1.out) | (with_reducible refine same_then ?_ HK1.out (fun k hk => by omega))))
      · have e1 : (D1.ps != s.ps) = true := bne_iff_ne.mpr e
        have hT := HPS.out e
        have HTT := hidE (HT3.out.far HKr.out (fun _ => id))
        clear hC hH hM hq hg
        go_wp2_with fail
        refine (HTU.out _ _ HTT.out).mono ?_
        rintro e w4 ⟨rfl, hk, -⟩
        obtain ⟨hc4, hf4, hr4⟩ := keeps_factsR hk
        have z4 := hk.size
        have lq0 : w.heap.size < w4.heap.size := by omega
        have lq1 : w.heap.size + 1 < w4.heap.size := by omega
        have lq2 : w1.heap.size < w4.heap.size := by omega
        have HK4 := hidE hk
        clear hk
        have hC := HC.out
        have hH := HH.out
        have hM := HM.out
        have hq := HEQ.out
        have hg : Try.prog.eqGuardType Try.prog.depth 23 = false := by kernel_rfl
        go_wp2_with fail
        refine (works8 _).mono ?_
        rintro e w9 ⟨rfl, hk⟩
        have HK9 := hidE hk
        clear hk
        go_wp2
        go_ret
        refine ⟨rfl, ?_⟩
        refine Keeps.trans ?_ HK9.out
        refine same_then ?_ HK4.out (fun k hk => by omega)
        refine Keeps.trans ?_ HKr.out
        (repeat (first | with_reducible exact Keeps.refl _ _ | (with_reducible refine Keeps.drew ?_) | (with_reducible refine Keeps.alloc ?_ _) | (with_reducible refine Keeps.setRow ?_ (fun h => absurd h (by omega)) _) | (with_reducible refine Keeps.setCell ?_ (fun h => absurd h (by simp only []; omega)) _) | (with_reducible refine Keeps.trans ?_ HK8.out) | (with_reducible refine same_then ?_ HK8.out (fun k hk => by omega)) | (with_reducible refine Keeps.trans ?_ HK7.out) | (with_reducible refine same_then ?_ HK7.out (fun k hk => by omega)) | (with_reducible refine Keeps.trans ?_ HK6.out) | (with_reducible refine same_then ?_ HK6.out (fun k hk => by omega)) | (with_reducible refine Keeps.trans ?_ HK5.out) | (with_reducible refine same_then ?_ HK5.out (fun k hk => by omega)) | (with_reducible refine Keeps.trans ?_ HK4.out) | (with_reducible refine same_then ?_ HK4.out (fun k hk => by omega)) | (with_reducible refine Keeps.trans ?_ HK3.out) | (with_reducible refine same_then ?_ HK3.out (fun k hk => by omega)) | (with_reducible refine Keeps.trans ?_ HK2.out) | (with_reducible refine same_then ?_ HK2.out (fun k hk => by omega)) | (with_reducible refine Keeps.trans ?_ HK1.out) | (with_reducible refine same_then ?_ HK1.out (fun k hk => by omega))))
theorem coreWrites_walk (w : World) (s0 : Array Value) (h0 : RdV Try.prog w 25 s0.toList) (s1 : Array Value) (h1 : RdV Try.prog w 27 s1.toList) (x2 : Int) (h2 : RdV Try.prog w 22 [.int .u32 x2]) :
    Calls Try.prog 8 #[.agg s0, .agg s1, .int .u32 x2] w fun e w' => e = .returned (.bool true) ∧ Below w.heap.size w w' := by
  obtain ⟨s, rfl, hs⟩ := st_open h0
  obtain ⟨i, rfl, hi⟩ := in_open h1
  obtain ⟨_, hx, l2, m2⟩ := RdV.int (k := .u32) h2 Try.underlying22
  cases hx
  simp [IntKind.min, IntKind.max, IntKind.bits, IntKind.signed] at l2 m2
  refine Calls.mono (?_ : Calls _ _ _ _ fun e w' => e = .returned (.bool true) ∧ Same w w') fun e w' h => ⟨h.1, same_below h.2⟩
  by_cases c0 : (doL s i x2).2.c = 0
  · exact writes_yes s i x2 hs hi l2 (by omega) c0 w
  · exact writes_fault s i x2 hs hi l2 (by omega) c0 w
end Go.Proofs.Ytdbfjgmehmbefaa
