/- The walk of the statement CoreFails. -/
import Derived.Test.YtdbfjgmehmbefaaWorks8
import Derived.Test.YtdbfjgmehmbefaaKindE
import Derived.Test.YtdbfjgmehmbefaaEqS2
namespace Go.Proofs.Ytdbfjgmehmbefaa
open Go.RowKit
attribute [local go_sem ↓] x_ldS x_stS x_ldI x_stI x_ldA x_stA x_ldF x_stF
attribute [local go_sem] ne_s1 en_s1 ne_s2 en_s2 ne_s3 en_s3 ne_s4 en_s4 ne_s5 en_s5 ne_s6 en_s6 ne_s7 en_s7 ne_s8 en_s8 ne_s9 en_s9 ne_s10 en_s10 ne_s11 en_s11 lt_s2 lt_s3 lt_s4 lt_s5 lt_s6 lt_s7 lt_s8 lt_s9 lt_s10 lt_s11 rowAt_at rowAt_old rowAt_drew rowAt_drewN setRow_drew setRow_at setRow_old setCell_row setRow_setRow rowAt_setRow_eq rowAt_setRow_ne cell_setRow_eq cell_setRow_ne frozen_setRow_eq frozen_setRow_ne ones_lit oc_int oc_bool oc_str oc_ptr oc_sl oc_map oc_fn oc_nf oc_ni oc_if ld_S st_S ld_I st_I ld_A st_A ld_F st_F sa_size sa_one ac_size fl_size ac_one fl_one fl_c fl_a fg_c fg_a sa_pc sa_ps sg_pc sg_ps sa_r6 sa_r7 sg_r6 sg_r7 sa_r sg_r ss_pc ss_ps ss_r6 ss_r7 ss_r st0_eq

theorem kind_x (op : Int) (h : (48 ≤ op ∧ op ≤ 58) ∨ op = 25 ∨ op = 30 ∨ op = 80) : hasB (kindM op).2 120 = true := by
  rcases (show op = 25 ∨ op = 30 ∨ op = 80 ∨ op = 48 ∨ op = 49 ∨ op = 50 ∨ op = 51 ∨ op = 52 ∨ op = 53 ∨ op = 54 ∨ op = 55 ∨ op = 56 ∨ op = 57 ∨ op = 58 by omega) with rfl | rfl | rfl | rfl | rfl | rfl | rfl | rfl | rfl | rfl | rfl | rfl | rfl | rfl
  all_goals decide +kernel
theorem plain_fails (t s : St) (i : In) (v : Int) (h : (plainL t i v s).2.c ≠ 0) : (plainL t i v s).1 = s ∧ (i.op = 25 ∨ i.op = 30) := by
  unfold plainL at *
  split
  · rename_i h1; rw [if_pos h1] at h; exact absurd rfl h
  rename_i h1
  rw [if_neg h1] at h
  split
  · rename_i h1; rw [if_pos h1] at h; exact absurd rfl h
  rename_i h2
  rw [if_neg h2] at h
  split
  · rename_i h3
    rw [if_pos h3] at h
    unfold partedL at *
    split
    · exact ⟨rfl, h3⟩
    · rename_i hz
      rw [if_neg hz] at h
      split at h <;> exact absurd rfl h
  rename_i h3
  rw [if_neg h3] at h
  split
  · rename_i h1; rw [if_pos h1] at h; exact absurd rfl h
  rename_i h4
  rw [if_neg h4] at h
  split
  · rename_i h1; rw [if_pos h1] at h; exact absurd rfl h
  · rename_i h5; rw [if_neg h5] at h; exact absurd rfl h
/-- With a fault nothing has changed. -/
theorem fails_law (s : St) (i : In) (v : Int) (h : (doL s i v).2.c ≠ 0) : (doL s i v).1 = s ∧ ((doL s i v).2.c = 1 ∨ hasB (kindM i.op).2 120 = true) := by
  unfold doL at *
  split
  · exact ⟨rfl, .inl rfl⟩
  rename_i hn
  rw [if_neg hn] at h
  split
  · rename_i hf
    refine ⟨rfl, .inr (kind_x _ (.inl ?_))⟩
    unfold wantL at hf
    split at hf
    · rename_i hm
      simp only [Bool.and_eq_true, memB, decide_eq_true_eq] at hm
      exact hm.1
    · exact absurd rfl hf
  rename_i hf
  rw [if_neg hf] at h
  split
  · rename_i h8; exact ⟨rfl, .inr (kind_x _ (.inr (.inr (.inr h8))))⟩
  rename_i h8
  rw [if_neg h8] at h
  split
  · rename_i hj; rw [if_pos hj] at h; exact absurd rfl h
  · rename_i hj
    rw [if_neg hj] at h
    obtain ⟨e, hp⟩ := plain_fails _ _ _ _ h
    exact ⟨e, .inr (kind_x _ (hp.elim (fun h => .inr (.inl h)) (fun h => .inr (.inr (.inl h)))))⟩
attribute [local go_sem ↓] x_eqS
attribute [local go_sem] eq_S
set_option maxHeartbeats 2000000 in
set_option maxRecDepth 100000 in
theorem fails_no (s : St) (i : In) (v : Int) (hs : s.Ok) (hi : i.Ok) (v0 : 0 ≤ v) (v1 : v < 4294967296) (h : (doL s i v).2.c = 0) (w : World) :
    Calls Try.prog 7 #[.agg (stA s), .agg (inA i), .int .u32 v] w fun e w' => e = .returned (.bool true) ∧ Same w w' := by
  have HD := hidE (fun w => do_any s i v hs hi v0 v1 w)
  generalize doL s i v = D at *
  obtain ⟨D1, ⟨D2, D3⟩⟩ := D
  obtain ⟨op, a, b, imm⟩ := i
  simp only [inA] at *
  subst h
  clear hs hi
  go_enter Try.func7, Try.ntmps7
  go_wp2_with fail
  refine (HD.out _).mono ?_
  rintro e w1 ⟨rfl, hk⟩
  (obtain ⟨hc1, hf1, hr1, -, -, -⟩ := same_facts hk); have lt_w1_0 : w.heap.size < w1.heap.size := (by have hh := (hk).size; (try simp at hh); omega); have lt_w1_1 : w.heap.size + 1 < w1.heap.size := (by have hh := (hk).size; (try simp at hh); omega); have lt1_w1_0 : w.heap.size < w1.heap.size + 1 := (by omega); have lt2_w1_0 : w.heap.size < w1.heap.size + 1 + 1 := (by omega); have lt1_w1_1 : w.heap.size + 1 < w1.heap.size + 1 := (by omega); have lt2_w1_1 : w.heap.size + 1 < w1.heap.size + 1 + 1 := (by omega); have rw_w1_0 := (hr1 (w.heap.size) (by (try simp); (try omega))).trans (show rowAt _ (w.heap.size) = _ by go_simp; rfl); have rw_w1_1 := (hr1 (w.heap.size + 1) (by (try simp); (try omega))).trans (show rowAt _ (w.heap.size + 1) = _ by go_simp; rfl); have HK1 := hidE hk; clear hk
  go_wp2_with fail
  refine (works8 _).mono ?_
  rintro e w9 ⟨rfl, hk⟩
  have HK9 := hidE hk
  clear hk
  go_wp2
  go_ret
  refine ⟨rfl, ?_⟩
  refine Keeps.trans ?_ HK9.out
  (repeat (first | with_reducible exact Keeps.refl _ _ | (with_reducible refine Keeps.drew ?_) | (with_reducible refine Keeps.alloc ?_ _) | (with_reducible refine Keeps.setRow ?_ (fun h => absurd h (by omega)) _) | (with_reducible refine Keeps.setCell ?_ (fun h => absurd h (by simp only []; omega)) _) | (with_reducible refine Keeps.trans ?_ HK8.out) | (with_reducible refine same_then ?_ HK8.out (fun k hk => by omega)) | (with_reducible refine Keeps.trans ?_ HK7.out) | (with_reducible refine same_then ?_ HK7.out (fun k hk => by omega)) | (with_reducible refine Keeps.trans ?_ HK6.out) | (with_reducible refine same_then ?_ HK6.out (fun k hk => by omega)) | (with_reducible refine Keeps.trans ?_ HK5.out) | (with_reducible refine same_then ?_ HK5.out (fun k hk => by omega)) | (with_reducible refine Keeps.trans ?_ HK4.out) | (with_reducible refine same_then ?_ HK4.out (fun k hk => by omega)) | (with_reducible refine Keeps.trans ?_ HK3.out) | (with_reducible refine same_then ?_ HK3.out (fun k hk => by omega)) | (with_reducible refine Keeps.trans ?_ HK2.out) | (with_reducible refine same_then ?_ HK2.out (fun k hk => by omega)) | (with_reducible refine Keeps.trans ?_ HK1.out) | (with_reducible refine same_then ?_ HK1.out (fun k hk => by omega))))
set_option maxHeartbeats 2000000 in
set_option maxRecDepth 100000 in
theorem fails_one (s : St) (i : In) (v : Int) (hs : s.Ok) (hi : i.Ok) (v0 : 0 ≤ v) (v1 : v < 4294967296) (h : (doL s i v).2.c = 1) (w : World) :
    Calls Try.prog 7 #[.agg (stA s), .agg (inA i), .int .u32 v] w fun e w' => e = .returned (.bool true) ∧ Same w w' := by
  have HD := hidE (fun w => do_any s i v hs hi v0 v1 w)
  have hl := (fails_law s i v (by omega)).1
  generalize doL s i v = D at *
  obtain ⟨D1, ⟨D2, D3⟩⟩ := D
  obtain ⟨op, a, b, imm⟩ := i
  simp only [inA] at *
  subst h
  subst hl
  clear hs hi
  go_enter Try.func7, Try.ntmps7
  go_wp2_with fail
  refine (HD.out _).mono ?_
  rintro e w1 ⟨rfl, hk⟩
  (obtain ⟨hc1, hf1, hr1, -, -, -⟩ := same_facts hk); have lt_w1_0 : w.heap.size < w1.heap.size := (by have hh := (hk).size; (try simp at hh); omega); have lt_w1_1 : w.heap.size + 1 < w1.heap.size := (by have hh := (hk).size; (try simp at hh); omega); have lt1_w1_0 : w.heap.size < w1.heap.size + 1 := (by omega); have lt2_w1_0 : w.heap.size < w1.heap.size + 1 + 1 := (by omega); have lt1_w1_1 : w.heap.size + 1 < w1.heap.size + 1 := (by omega); have lt2_w1_1 : w.heap.size + 1 < w1.heap.size + 1 + 1 := (by omega); have rw_w1_0 := (hr1 (w.heap.size) (by (try simp); (try omega))).trans (show rowAt _ (w.heap.size) = _ by go_simp; rfl); have rw_w1_1 := (hr1 (w.heap.size + 1) (by (try simp); (try omega))).trans (show rowAt _ (w.heap.size + 1) = _ by go_simp; rfl); have HK1 := hidE hk; clear hk
  go_wp2_with fail
  refine (kind_new _).mono ?_
  rintro e w2 ⟨rfl, htn, hk⟩
  (obtain ⟨hc2, hf2, hr2, -, -, -⟩ := same_facts hk); have lt_w2_0 : w1.heap.size < w2.heap.size := (by have hh := (hk).size; (try simp at hh); omega); have lt_w2_1 : w1.heap.size + 1 < w2.heap.size := (by have hh := (hk).size; (try simp at hh); omega); have lt1_w2_0 : w1.heap.size < w2.heap.size + 1 := (by omega); have lt2_w2_0 : w1.heap.size < w2.heap.size + 1 + 1 := (by omega); have lt1_w2_1 : w1.heap.size + 1 < w2.heap.size + 1 := (by omega); have lt2_w2_1 : w1.heap.size + 1 < w2.heap.size + 1 + 1 := (by omega); have rw_w2_0 := (hr2 (w1.heap.size) (by (try simp); (try omega))).trans (show rowAt _ (w1.heap.size) = _ by go_simp; rfl); have rw_w2_1 := (hr2 (w1.heap.size + 1) (by (try simp); (try omega))).trans (show rowAt _ (w1.heap.size + 1) = _ by go_simp; rfl); have HK2 := hidE hk; clear hk
  have lt_w2_0 : w.heap.size < w2.heap.size := (by have hh := (HK2.out).size; (try simp at hh); omega); have lt_w2_1 : w.heap.size + 1 < w2.heap.size := (by have hh := (HK2.out).size; (try simp at hh); omega); have lt1_w2_0 : w.heap.size < w2.heap.size + 1 := (by omega); have lt2_w2_0 : w.heap.size < w2.heap.size + 1 + 1 := (by omega); have lt1_w2_1 : w.heap.size + 1 < w2.heap.size + 1 := (by omega); have lt2_w2_1 : w.heap.size + 1 < w2.heap.size + 1 + 1 := (by omega)
  have nn_w1_0_0 : w.heap.size ≠ w1.heap.size := (by omega); have mm_w1_0_0 : w1.heap.size ≠ w.heap.size := (by omega); have nn_w1_1_0 : w.heap.size ≠ w1.heap.size + 1 := (by omega); have mm_w1_1_0 : w1.heap.size + 1 ≠ w.heap.size := (by omega); have nn_w1_2_0 : w.heap.size ≠ w1.heap.size + 1 + 1 := (by omega); have mm_w1_2_0 : w1.heap.size + 1 + 1 ≠ w.heap.size := (by omega); have nn_w1_0_1 : w.heap.size + 1 ≠ w1.heap.size := (by omega); have mm_w1_0_1 : w1.heap.size ≠ w.heap.size + 1 := (by omega); have nn_w1_1_1 : w.heap.size + 1 ≠ w1.heap.size + 1 := (by omega); have mm_w1_1_1 : w1.heap.size + 1 ≠ w.heap.size + 1 := (by omega); have nn_w1_2_1 : w.heap.size + 1 ≠ w1.heap.size + 1 + 1 := (by omega); have mm_w1_2_1 : w1.heap.size + 1 + 1 ≠ w.heap.size + 1 := (by omega)
  simp only [World.size_alloc] at htn
  have HT := hidE htn
  clear htn
  have rw_w2_0 := (hr2 (w.heap.size) (by (try simp); (try omega))).trans (show rowAt _ (w.heap.size) = _ by go_simp; rfl); have rw_w2_1 := (hr2 (w.heap.size + 1) (by (try simp); (try omega))).trans (show rowAt _ (w.heap.size + 1) = _ by go_simp; rfl)
  go_wp2_with fail
  refine (works8 _).mono ?_
  rintro e w9 ⟨rfl, hk⟩
  have HK9 := hidE hk
  clear hk
  go_wp2
  go_ret
  refine ⟨rfl, ?_⟩
  refine Keeps.trans ?_ HK9.out
  (repeat (first | with_reducible exact Keeps.refl _ _ | (with_reducible refine Keeps.drew ?_) | (with_reducible refine Keeps.alloc ?_ _) | (with_reducible refine Keeps.setRow ?_ (fun h => absurd h (by omega)) _) | (with_reducible refine Keeps.setCell ?_ (fun h => absurd h (by simp only []; omega)) _) | (with_reducible refine Keeps.trans ?_ HK8.out) | (with_reducible refine same_then ?_ HK8.out (fun k hk => by omega)) | (with_reducible refine Keeps.trans ?_ HK7.out) | (with_reducible refine same_then ?_ HK7.out (fun k hk => by omega)) | (with_reducible refine Keeps.trans ?_ HK6.out) | (with_reducible refine same_then ?_ HK6.out (fun k hk => by omega)) | (with_reducible refine Keeps.trans ?_ HK5.out) | (with_reducible refine same_then ?_ HK5.out (fun k hk => by omega)) | (with_reducible refine Keeps.trans ?_ HK4.out) | (with_reducible refine same_then ?_ HK4.out (fun k hk => by omega)) | (with_reducible refine Keeps.trans ?_ HK3.out) | (with_reducible refine same_then ?_ HK3.out (fun k hk => by omega)) | (with_reducible refine Keeps.trans ?_ HK2.out) | (with_reducible refine same_then ?_ HK2.out (fun k hk => by omega)) | (with_reducible refine Keeps.trans ?_ HK1.out) | (with_reducible refine same_then ?_ HK1.out (fun k hk => by omega))))
set_option maxHeartbeats 2000000 in
set_option maxRecDepth 100000 in
theorem fails_other (s : St) (i : In) (v : Int) (hs : s.Ok) (hi : i.Ok) (v0 : 0 ≤ v) (v1 : v < 4294967296) (h0 : (doL s i v).2.c ≠ 0) (h1 : (doL s i v).2.c ≠ 1) (w : World) :
    Calls Try.prog 7 #[.agg (stA s), .agg (inA i), .int .u32 v] w fun e w' => e = .returned (.bool true) ∧ Same w w' := by
  have HD := hidE (fun w => do_any s i v hs hi v0 v1 w)
  obtain ⟨hl, hx⟩ := fails_law s i v h0
  have hx := hx.resolve_left h1
  have HE := hidE (fun w tb ht => fails_ok w tb i.op hi.o0 hi.o1 ht)
  rw [hx] at HE
  clear hx
  generalize doL s i v = D at *
  obtain ⟨D1, ⟨D2, D3⟩⟩ := D
  obtain ⟨op, a, b, imm⟩ := i
  simp only [inA] at *
  subst hl
  have hx0 : (D2 == 0) = false := beq_eq_false_iff_ne.mpr h0
  have hx1 : (D2 == 1) = false := beq_eq_false_iff_ne.mpr h1
  clear hs hi h0 h1
  go_enter Try.func7, Try.ntmps7
  go_wp2_with fail
  refine (HD.out _).mono ?_
  rintro e w1 ⟨rfl, hk⟩
  (obtain ⟨hc1, hf1, hr1, -, -, -⟩ := same_facts hk); have lt_w1_0 : w.heap.size < w1.heap.size := (by have hh := (hk).size; (try simp at hh); omega); have lt_w1_1 : w.heap.size + 1 < w1.heap.size := (by have hh := (hk).size; (try simp at hh); omega); have lt1_w1_0 : w.heap.size < w1.heap.size + 1 := (by omega); have lt2_w1_0 : w.heap.size < w1.heap.size + 1 + 1 := (by omega); have lt1_w1_1 : w.heap.size + 1 < w1.heap.size + 1 := (by omega); have lt2_w1_1 : w.heap.size + 1 < w1.heap.size + 1 + 1 := (by omega); have rw_w1_0 := (hr1 (w.heap.size) (by (try simp); (try omega))).trans (show rowAt _ (w.heap.size) = _ by go_simp; rfl); have rw_w1_1 := (hr1 (w.heap.size + 1) (by (try simp); (try omega))).trans (show rowAt _ (w.heap.size + 1) = _ by go_simp; rfl); have HK1 := hidE hk; clear hk
  go_wp2_with fail
  refine (kind_new _).mono ?_
  rintro e w2 ⟨rfl, htn, hk⟩
  (obtain ⟨hc2, hf2, hr2, -, -, -⟩ := same_facts hk); have lt_w2_0 : w1.heap.size < w2.heap.size := (by have hh := (hk).size; (try simp at hh); omega); have lt_w2_1 : w1.heap.size + 1 < w2.heap.size := (by have hh := (hk).size; (try simp at hh); omega); have lt1_w2_0 : w1.heap.size < w2.heap.size + 1 := (by omega); have lt2_w2_0 : w1.heap.size < w2.heap.size + 1 + 1 := (by omega); have lt1_w2_1 : w1.heap.size + 1 < w2.heap.size + 1 := (by omega); have lt2_w2_1 : w1.heap.size + 1 < w2.heap.size + 1 + 1 := (by omega); have rw_w2_0 := (hr2 (w1.heap.size) (by (try simp); (try omega))).trans (show rowAt _ (w1.heap.size) = _ by go_simp; rfl); have rw_w2_1 := (hr2 (w1.heap.size + 1) (by (try simp); (try omega))).trans (show rowAt _ (w1.heap.size + 1) = _ by go_simp; rfl); have HK2 := hidE hk; clear hk
  have lt_w2_0 : w.heap.size < w2.heap.size := (by have hh := (HK2.out).size; (try simp at hh); omega); have lt_w2_1 : w.heap.size + 1 < w2.heap.size := (by have hh := (HK2.out).size; (try simp at hh); omega); have lt1_w2_0 : w.heap.size < w2.heap.size + 1 := (by omega); have lt2_w2_0 : w.heap.size < w2.heap.size + 1 + 1 := (by omega); have lt1_w2_1 : w.heap.size + 1 < w2.heap.size + 1 := (by omega); have lt2_w2_1 : w.heap.size + 1 < w2.heap.size + 1 + 1 := (by omega)
  have nn_w1_0_0 : w.heap.size ≠ w1.heap.size := (by omega); have mm_w1_0_0 : w1.heap.size ≠ w.heap.size := (by omega); have nn_w1_1_0 : w.heap.size ≠ w1.heap.size + 1 := (by omega); have mm_w1_1_0 : w1.heap.size + 1 ≠ w.heap.size := (by omega); have nn_w1_2_0 : w.heap.size ≠ w1.heap.size + 1 + 1 := (by omega); have mm_w1_2_0 : w1.heap.size + 1 + 1 ≠ w.heap.size := (by omega); have nn_w1_0_1 : w.heap.size + 1 ≠ w1.heap.size := (by omega); have mm_w1_0_1 : w1.heap.size ≠ w.heap.size + 1 := (by omega); have nn_w1_1_1 : w.heap.size + 1 ≠ w1.heap.size + 1 := (by omega); have mm_w1_1_1 : w1.heap.size + 1 ≠ w.heap.size + 1 := (by omega); have nn_w1_2_1 : w.heap.size + 1 ≠ w1.heap.size + 1 + 1 := (by omega); have mm_w1_2_1 : w1.heap.size + 1 + 1 ≠ w.heap.size + 1 := (by omega)
  simp only [World.size_alloc] at htn
  have HT := hidE htn
  clear htn
  have rw_w2_0 := (hr2 (w.heap.size) (by (try simp); (try omega))).trans (show rowAt _ (w.heap.size) = _ by go_simp; rfl); have rw_w2_1 := (hr2 (w.heap.size + 1) (by (try simp); (try omega))).trans (show rowAt _ (w.heap.size + 1) = _ by go_simp; rfl)
  go_wp2_with fail
  refine (HE.out _ _ (.inl HT.out)).mono ?_
  rintro e w3 ⟨rfl, hk, ht⟩
  obtain ⟨hc3, hf3, hr3⟩ := keeps_factsR hk
  have lt_w3_0 : w1.heap.size < w3.heap.size := (by have hh := (hk).size; (try simp at hh); omega); have lt_w3_1 : w1.heap.size + 1 < w3.heap.size := (by have hh := (hk).size; (try simp at hh); omega); have lt1_w3_0 : w1.heap.size < w3.heap.size + 1 := (by omega); have lt2_w3_0 : w1.heap.size < w3.heap.size + 1 + 1 := (by omega); have lt1_w3_1 : w1.heap.size + 1 < w3.heap.size + 1 := (by omega); have lt2_w3_1 : w1.heap.size + 1 < w3.heap.size + 1 + 1 := (by omega)
  have HK3 := hidE hk
  clear hk ht
  go_wp2_with fail
  refine (works8 _).mono ?_
  rintro e w9 ⟨rfl, hk⟩
  have HK9 := hidE hk
  clear hk
  go_wp2
  go_ret
  refine ⟨rfl, ?_⟩
  refine Keeps.trans ?_ HK9.out
  (repeat (first | with_reducible exact Keeps.refl _ _ | (with_reducible refine Keeps.drew ?_) | (with_reducible refine Keeps.alloc ?_ _) | (with_reducible refine Keeps.setRow ?_ (fun h => absurd h (by omega)) _) | (with_reducible refine Keeps.setCell ?_ (fun h => absurd h (by simp only []; omega)) _) | (with_reducible refine Keeps.trans ?_ HK8.out) | (with_reducible refine same_then ?_ HK8.out (fun k hk => by omega)) | (with_reducible refine Keeps.trans ?_ HK7.out) | (with_reducible refine same_then ?_ HK7.out (fun k hk => by omega)) | (with_reducible refine Keeps.trans ?_ HK6.out) | (with_reducible refine same_then ?_ HK6.out (fun k hk => by omega)) | (with_reducible refine Keeps.trans ?_ HK5.out) | (with_reducible refine same_then ?_ HK5.out (fun k hk => by omega)) | (with_reducible refine Keeps.trans ?_ HK4.out) | (with_reducible refine same_then ?_ HK4.out (fun k hk => by omega)) | (with_reducible refine Keeps.trans ?_ HK3.out) | (with_reducible refine same_then ?_ HK3.out (fun k hk => by omega)) | (with_reducible refine Keeps.trans ?_ HK2.out) | (with_reducible refine same_then ?_ HK2.out (fun k hk => by omega)) | (with_reducible refine Keeps.trans ?_ HK1.out) | (with_reducible refine same_then ?_ HK1.out (fun k hk => by omega))))
theorem coreFails_walk (w : World) (s0 : Array Value) (h0 : RdV Try.prog w 25 s0.toList) (s1 : Array Value) (h1 : RdV Try.prog w 27 s1.toList) (x2 : Int) (h2 : RdV Try.prog w 22 [.int .u32 x2]) :
    Calls Try.prog 7 #[.agg s0, .agg s1, .int .u32 x2] w fun e w' => e = .returned (.bool true) ∧ Below w.heap.size w w' := by
  obtain ⟨s, rfl, hs⟩ := st_open h0
  obtain ⟨i, rfl, hi⟩ := in_open h1
  obtain ⟨_, hx, l2, m2⟩ := RdV.int (k := .u32) h2 Try.underlying22
  cases hx
  simp [IntKind.min, IntKind.max, IntKind.bits, IntKind.signed] at l2 m2
  refine Calls.mono (?_ : Calls _ _ _ _ fun e w' => e = .returned (.bool true) ∧ Same w w') fun e w' h => ⟨h.1, same_below h.2⟩
  by_cases c0 : (doL s i x2).2.c = 0
  · exact fails_no s i x2 hs hi l2 (by omega) c0 w
  by_cases c1 : (doL s i x2).2.c = 1
  · exact fails_one s i x2 hs hi l2 (by omega) c1 w
  · exact fails_other s i x2 hs hi l2 (by omega) c0 c1 w
end Go.Proofs.Ytdbfjgmehmbefaa
