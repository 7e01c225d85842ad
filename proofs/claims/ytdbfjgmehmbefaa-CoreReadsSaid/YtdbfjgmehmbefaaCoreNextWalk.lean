/- The walk of the statement CoreNext. -/
import Derived.Test.YtdbfjgmehmbefaaWorks8
import Derived.Test.YtdbfjgmehmbefaaKindD
namespace Go.Proofs.Ytdbfjgmehmbefaa
open Go.RowKit
attribute [local go_sem ↓] x_ldS x_stS x_ldI x_stI x_ldA x_stA x_ldF x_stF
attribute [local go_sem] ne_s1 en_s1 ne_s2 en_s2 ne_s3 en_s3 ne_s4 en_s4 ne_s5 en_s5 ne_s6 en_s6 ne_s7 en_s7 ne_s8 en_s8 ne_s9 en_s9 ne_s10 en_s10 ne_s11 en_s11 lt_s2 lt_s3 lt_s4 lt_s5 lt_s6 lt_s7 lt_s8 lt_s9 lt_s10 lt_s11 rowAt_at rowAt_old rowAt_drew rowAt_drewN setRow_drew setRow_at setRow_old setCell_row setRow_setRow rowAt_setRow_eq rowAt_setRow_ne cell_setRow_eq cell_setRow_ne frozen_setRow_eq frozen_setRow_ne ones_lit oc_int oc_bool oc_str oc_ptr oc_sl oc_map oc_fn oc_nf oc_ni oc_if ld_S st_S ld_I st_I ld_A st_A ld_F st_F sa_size sa_one ac_size fl_size ac_one fl_one fl_c fl_a fg_c fg_a sa_pc sa_ps sg_pc sg_ps sa_r6 sa_r7 sg_r6 sg_r7 sa_r sg_r ss_pc ss_ps ss_r6 ss_r7 ss_r st0_eq

/-- Where the next instruction lies. -/
theorem plain_pc (t s : St) (i : In) (v : Int) (h : (plainL t i v s).2.c = 0) : (plainL t i v s).1.pc = t.pc := by
  unfold plainL at *
  split
  · rfl
  split
  · rfl
  split
  · rename_i h1 h2 h3
    rw [if_neg h1, if_neg h2, if_pos h3] at h
    unfold partedL at *
    split
    · rename_i hz; rw [if_pos hz] at h; simp at h
    split <;> rfl
  split
  · unfold movedL
    simp only
    repeat (split; rfl)
    rfl
  split
  · unfold summedL
    simp only
    split <;> rfl
  · rfl
theorem kind_ends (op : Int) (c0 : 64 ≤ op) (c1 : op ≤ 74) : 3 ≤ (kindM op).1 := by
  rcases (show op = 64 ∨ op = 65 ∨ op = 66 ∨ op = 67 ∨ op = 68 ∨ op = 69 ∨ op = 70 ∨ op = 71 ∨ op = 72 ∨ op = 73 ∨ op = 74 by omega) with rfl | rfl | rfl | rfl | rfl | rfl | rfl | rfl | rfl | rfl | rfl
  all_goals decide +kernel
theorem kind_trap : 3 ≤ (kindM 80).1 := by decide +kernel
theorem form_ways (op : Int) (h : 1 ≤ (formL op false).n) : (formL op false).n = 1 ∨ (formL op false).n = 2 ∨ (formL op false).n = 3 ∨ (formL op false).n = 6 := by
  have h9 := cls_le op false
  unfold formL at *
  generalize clsOf op false = c at *
  obtain h | h | h | h | h | h | h | h | h | h : c = 0 ∨ c = 1 ∨ c = 2 ∨ c = 3 ∨ c = 4 ∨ c = 5 ∨ c = 6 ∨ c = 7 ∨ c = 8 ∨ c = 9 := by omega
  all_goals subst h; simp [fmOf, fm0] at *
/-- An instruction that ends no block leads to the one behind it. -/
theorem next_law (s : St) (i : In) (v : Int) (hs : s.Ok) (h : (doL s i v).2.c = 0) (he : ¬ 3 ≤ (kindM i.op).1) : ((doL s i v).1.pc - s.pc) % 4294967296 = 1 ∨ ((doL s i v).1.pc - s.pc) % 4294967296 = 2 ∨ ((doL s i v).1.pc - s.pc) % 4294967296 = 3 ∨ ((doL s i v).1.pc - s.pc) % 4294967296 = 6 := by
  have p0 := hs.pc0
  have p1 := hs.pc1
  cases hn : noneB i
  case true => unfold doL at h; rw [if_pos hn] at h; simp at h
  by_cases hf : (wantL s i).2.c = 0
  case neg => unfold doL at h; rw [if_neg (by simp [hn]), if_pos hf] at h; exact absurd h hf
  by_cases h8 : i.op = 80
  · rw [h8] at he; exact absurd kind_trap he
  by_cases hj : 64 ≤ i.op ∧ i.op ≤ 74
  · exact absurd (kind_ends i.op hj.1 hj.2) he
  have e : doL s i v = plainL (s.setPc (nextL s i)) i v s := by unfold doL; rw [if_neg (by simp [hn]), if_neg (by simp [hf]), if_neg h8, if_neg hj]
  rw [e] at h ⊢
  rw [plain_pc _ _ _ _ h]
  have hm := none_may_of hn
  unfold mayB at hm
  simp only [Bool.and_eq_true, decide_eq_true_eq] at hm
  have hw := form_ways i.op hm.1.1.1
  show ((s.pc + (formL i.op false).n) % 4294967296 - s.pc) % 4294967296 = 1 ∨ _
  rcases hw with hw | hw | hw | hw <;> rw [hw]
  · left; omega
  · right; left; show ((s.pc + (formL i.op false).n) % 4294967296 - s.pc) % 4294967296 = 2; rw [hw]; omega
  · right; right; left; show ((s.pc + (formL i.op false).n) % 4294967296 - s.pc) % 4294967296 = 3; rw [hw]; omega
  · right; right; right; show ((s.pc + (formL i.op false).n) % 4294967296 - s.pc) % 4294967296 = 6; rw [hw]; omega
/-- What the last line asks. -/
def nextOk (n : Int) : Bool := n == 1 || n == 2 || n == 3 || n == 6
set_option maxHeartbeats 2000000 in
set_option maxRecDepth 100000 in
theorem next_fault (s : St) (i : In) (v : Int) (hs : s.Ok) (hi : i.Ok) (v0 : 0 ≤ v) (v1 : v < 4294967296) (h : (doL s i v).2.c ≠ 0) (w : World) :
    Calls Try.prog 6 #[.agg (stA s), .agg (inA i), .int .u32 v] w fun e w' => e = .returned (.bool true) ∧ Same w w' := by
  have HD := hidE (fun w => do_any s i v hs hi v0 v1 w)
  generalize doL s i v = D at *
  obtain ⟨D1, ⟨D2, D3⟩⟩ := D
  obtain ⟨op, a, b, imm⟩ := i
  simp only [inA] at *
  have hx : (D2 != 0) = true := bne_iff_ne.mpr h
  clear h hs hi
  go_enter Try.func6, Try.ntmps6
  go_wp2_with fail
  refine (HD.out _).mono ?_
  rintro e w1 ⟨rfl, hk⟩
  (obtain ⟨hc1, hf1, hr1, -, -, -⟩ := same_facts hk); have lt_w1_0 : w.heap.size < w1.heap.size := (by have hh := (hk).size; (try simp at hh); omega); have lt_w1_1 : w.heap.size + 1 < w1.heap.size := (by have hh := (hk).size; (try simp at hh); omega); have lt1_w1_0 : w.heap.size < w1.heap.size + 1 := (by omega); have lt2_w1_0 : w.heap.size < w1.heap.size + 1 + 1 := (by omega); have lt1_w1_1 : w.heap.size + 1 < w1.heap.size + 1 := (by omega); have lt2_w1_1 : w.heap.size + 1 < w1.heap.size + 1 + 1 := (by omega); have rw_w1_0 := (hr1 (w.heap.size) (by (try simp); (try omega))).trans (show rowAt _ (w.heap.size) = _ by go_simp; rfl); have rw_w1_1 := (hr1 (w.heap.size + 1) (by (try simp); (try omega))).trans (show rowAt _ (w.heap.size + 1) = _ by go_simp; rfl); have HK1 := hidE hk; clear hk
  go_wp2_with fail
  refine (kind_new _).mono ?_
  rintro e w2 ⟨rfl, htn, hk⟩
  (obtain ⟨hc2, hf2, hr2, -, -, -⟩ := same_facts hk); have lt_w2_0 : w1.heap.size < w2.heap.size := (by have hh := (hk).size; (try simp at hh); omega); have lt_w2_1 : w1.heap.size + 1 < w2.heap.size := (by have hh := (hk).size; (try simp at hh); omega); have lt1_w2_0 : w1.heap.size < w2.heap.size + 1 := (by omega); have lt2_w2_0 : w1.heap.size < w2.heap.size + 1 + 1 := (by omega); have lt1_w2_1 : w1.heap.size + 1 < w2.heap.size + 1 := (by omega); have lt2_w2_1 : w1.heap.size + 1 < w2.heap.size + 1 + 1 := (by omega); have rw_w2_0 := (hr2 (w1.heap.size) (by (try simp); (try omega))).trans (show rowAt _ (w1.heap.size) = _ by go_simp; rfl); have rw_w2_1 := (hr2 (w1.heap.size + 1) (by (try simp); (try omega))).trans (show rowAt _ (w1.heap.size + 1) = _ by go_simp; rfl); have HK2 := hidE hk; clear hk
  have lt_w2_0 : w.heap.size < w2.heap.size := (by have hh := (HK2.out).size; (try simp at hh); omega); have lt_w2_1 : w.heap.size + 1 < w2.heap.size := (by have hh := (HK2.out).size; (try simp at hh); omega); have lt1_w2_0 : w.heap.size < w2.heap.size + 1 := (by omega); have lt2_w2_0 : w.heap.size < w2.heap.size + 1 + 1 := (by omega); have lt1_w2_1 : w.heap.size + 1 < w2.heap.size + 1 := (by omega); have lt2_w2_1 : w.heap.size + 1 < w2.heap.size + 1 + 1 := (by omega)
  have nn_w1_0_0 : w.heap.size ≠ w1.heap.size := (by omega); have mm_w1_0_0 : w1.heap.size ≠ w.heap.size := (by omega); have nn_w1_1_0 : w.heap.size ≠ w1.heap.size + 1 := (by omega); have mm_w1_1_0 : w1.heap.size + 1 ≠ w.heap.size := (by omega); have nn_w1_2_0 : w.heap.size ≠ w1.heap.size + 1 + 1 := (by omega); have mm_w1_2_0 : w1.heap.size + 1 + 1 ≠ w.heap.size := (by omega); have nn_w1_0_1 : w.heap.size + 1 ≠ w1.heap.size := (by omega); have mm_w1_0_1 : w1.heap.size ≠ w.heap.size + 1 := (by omega); have nn_w1_1_1 : w.heap.size + 1 ≠ w1.heap.size + 1 := (by omega); have mm_w1_1_1 : w1.heap.size + 1 ≠ w.heap.size + 1 := (by omega); have nn_w1_2_1 : w.heap.size + 1 ≠ w1.heap.size + 1 + 1 := (by omega); have mm_w1_2_1 : w1.heap.size + 1 + 1 ≠ w.heap.size + 1 := (by omega)
  simp only [World.size_alloc] at htn
  have HT := hidE htn
  clear htn
  go_wp2_with fail
  refine (works8 _).mono ?_
  rintro e w9 ⟨rfl, hk⟩
  have HK9 := hidE hk
  clear hk
  go_wp2
  go_ret
  refine ⟨rfl, ?_⟩
  refine Keeps.trans ?_ HK9.out
  (repeat (first | with_reducible exact Keeps.refl _ _ | (with_reducible refine Keeps.drew ?_) | (with_reducible refine Keeps.alloc ?_ _) | (with_reducible refine Keeps.setRow ?_ (fun h => absurd h (by omega)) _) | (with_reducible refine Keeps.setCell ?_ (fun h => absurd h (by simp only []; omega)) _) | (with_reducible refine Keeps.trans ?_ HK8.out) | (with_reducible refine same_then ?_ HK8.out (fun k hk => by omega)) | (with_reducible refine Keeps.trans ?_ HK7.out) | (with_reducible refine same_then ?_ HK7.out (fun k hk => by omega)) | (with_reducible refine Keeps.trans ?_ HK6.out) | (with_reducible refine same_then ?_ HK6.out (fun k hk => by omega)) | (with_reducible refine Keeps.trans ?_ HK5.out) | (with_reducible refine same_then ?_ HK5.out (fun k hk => by omega)) | (with_reducible refine Keeps.trans ?_ HK4.out) | (with_reducible refine same_then ?_ HK4.out (fun k hk => by omega)) | (with_reducible refine Keeps.trans ?_ HK3.out) | (with_reducible refine same_then ?_ HK3.out (fun k hk => by omega)) | (with_reducible refine Keeps.trans ?_ HK2.out) | (with_reducible refine same_then ?_ HK2.out (fun k hk => by omega)) | (with_reducible refine Keeps.trans ?_ HK1.out) | (with_reducible refine same_then ?_ HK1.out (fun k hk => by omega))))
set_option maxHeartbeats 2000000 in
set_option maxRecDepth 100000 in
theorem next_ends (s : St) (i : In) (v : Int) (hs : s.Ok) (hi : i.Ok) (v0 : 0 ≤ v) (v1 : v < 4294967296) (h : (doL s i v).2.c = 0) (he : decide (3 ≤ (kindM i.op).1) = true) (w : World) :
    Calls Try.prog 6 #[.agg (stA s), .agg (inA i), .int .u32 v] w fun e w' => e = .returned (.bool true) ∧ Same w w' := by
  have HD := hidE (fun w => do_any s i v hs hi v0 v1 w)
  generalize doL s i v = D at *
  obtain ⟨D1, ⟨D2, D3⟩⟩ := D
  obtain ⟨op, a, b, imm⟩ := i
  simp only [inA] at *
  have HE := hidE (fun w tb ht => ends_ok w tb op hi.o0 hi.o1 ht)
  rw [he] at HE
  subst h
  clear hs hi he
  go_enter Try.func6, Try.ntmps6
  go_wp2_with fail
  refine (HD.out _).mono ?_
  rintro e w1 ⟨rfl, hk⟩
  (obtain ⟨hc1, hf1, hr1, -, -, -⟩ := same_facts hk); have lt_w1_0 : w.heap.size < w1.heap.size := (by have hh := (hk).size; (try simp at hh); omega); have lt_w1_1 : w.heap.size + 1 < w1.heap.size := (by have hh := (hk).size; (try simp at hh); omega); have lt1_w1_0 : w.heap.size < w1.heap.size + 1 := (by omega); have lt2_w1_0 : w.heap.size < w1.heap.size + 1 + 1 := (by omega); have lt1_w1_1 : w.heap.size + 1 < w1.heap.size + 1 := (by omega); have lt2_w1_1 : w.heap.size + 1 < w1.heap.size + 1 + 1 := (by omega); have rw_w1_0 := (hr1 (w.heap.size) (by (try simp); (try omega))).trans (show rowAt _ (w.heap.size) = _ by go_simp; rfl); have rw_w1_1 := (hr1 (w.heap.size + 1) (by (try simp); (try omega))).trans (show rowAt _ (w.heap.size + 1) = _ by go_simp; rfl); have HK1 := hidE hk; clear hk
  go_wp2_with fail
  refine (kind_new _).mono ?_
  rintro e w2 ⟨rfl, htn, hk⟩
  (obtain ⟨hc2, hf2, hr2, -, -, -⟩ := same_facts hk); have lt_w2_0 : w1.heap.size < w2.heap.size := (by have hh := (hk).size; (try simp at hh); omega); have lt_w2_1 : w1.heap.size + 1 < w2.heap.size := (by have hh := (hk).size; (try simp at hh); omega); have lt1_w2_0 : w1.heap.size < w2.heap.size + 1 := (by omega); have lt2_w2_0 : w1.heap.size < w2.heap.size + 1 + 1 := (by omega); have lt1_w2_1 : w1.heap.size + 1 < w2.heap.size + 1 := (by omega); have lt2_w2_1 : w1.heap.size + 1 < w2.heap.size + 1 + 1 := (by omega); have rw_w2_0 := (hr2 (w1.heap.size) (by (try simp); (try omega))).trans (show rowAt _ (w1.heap.size) = _ by go_simp; rfl); have rw_w2_1 := (hr2 (w1.heap.size + 1) (by (try simp); (try omega))).trans (show rowAt _ (w1.heap.size + 1) = _ by go_simp; rfl); have HK2 := hidE hk; clear hk
  have lt_w2_0 : w.heap.size < w2.heap.size := (by have hh := (HK2.out).size; (try simp at hh); omega); have lt_w2_1 : w.heap.size + 1 < w2.heap.size := (by have hh := (HK2.out).size; (try simp at hh); omega); have lt1_w2_0 : w.heap.size < w2.heap.size + 1 := (by omega); have lt2_w2_0 : w.heap.size < w2.heap.size + 1 + 1 := (by omega); have lt1_w2_1 : w.heap.size + 1 < w2.heap.size + 1 := (by omega); have lt2_w2_1 : w.heap.size + 1 < w2.heap.size + 1 + 1 := (by omega)
  have nn_w1_0_0 : w.heap.size ≠ w1.heap.size := (by omega); have mm_w1_0_0 : w1.heap.size ≠ w.heap.size := (by omega); have nn_w1_1_0 : w.heap.size ≠ w1.heap.size + 1 := (by omega); have mm_w1_1_0 : w1.heap.size + 1 ≠ w.heap.size := (by omega); have nn_w1_2_0 : w.heap.size ≠ w1.heap.size + 1 + 1 := (by omega); have mm_w1_2_0 : w1.heap.size + 1 + 1 ≠ w.heap.size := (by omega); have nn_w1_0_1 : w.heap.size + 1 ≠ w1.heap.size := (by omega); have mm_w1_0_1 : w1.heap.size ≠ w.heap.size + 1 := (by omega); have nn_w1_1_1 : w.heap.size + 1 ≠ w1.heap.size + 1 := (by omega); have mm_w1_1_1 : w1.heap.size + 1 ≠ w.heap.size + 1 := (by omega); have nn_w1_2_1 : w.heap.size + 1 ≠ w1.heap.size + 1 + 1 := (by omega); have mm_w1_2_1 : w1.heap.size + 1 + 1 ≠ w.heap.size + 1 := (by omega)
  simp only [World.size_alloc] at htn
  have HT := hidE htn
  clear htn
  go_wp2_with fail
  refine (HE.out _ _ (.inl HT.out)).mono ?_
  rintro e w3 ⟨rfl, hk, ht⟩
  obtain ⟨hc3, hf3, hr3⟩ := keeps_factsR hk
  have lt_w3_0 : w1.heap.size < w3.heap.size := (by have hh := (hk).size; (try simp at hh); omega); have lt_w3_1 : w1.heap.size + 1 < w3.heap.size := (by have hh := (hk).size; (try simp at hh); omega); have lt1_w3_0 : w1.heap.size < w3.heap.size + 1 := (by omega); have lt2_w3_0 : w1.heap.size < w3.heap.size + 1 + 1 := (by omega); have lt1_w3_1 : w1.heap.size + 1 < w3.heap.size + 1 := (by omega); have lt2_w3_1 : w1.heap.size + 1 < w3.heap.size + 1 + 1 := (by omega)
  have HK3 := hidE hk
  clear hk ht
  go_wp2_with fail
  refine (works8 _).mono ?_
  rintro e w9 ⟨rfl, hk⟩
  have HK9 := hidE hk
  clear hk
  go_wp2
  go_ret
  refine ⟨rfl, ?_⟩
  refine Keeps.trans ?_ HK9.out
  (repeat (first | with_reducible exact Keeps.refl _ _ | (with_reducible refine Keeps.drew ?_) | (with_reducible refine Keeps.alloc ?_ _) | (with_reducible refine Keeps.setRow ?_ (fun h => absurd h (by omega)) _) | (with_reducible refine Keeps.setCell ?_ (fun h => absurd h (by simp only []; omega)) _) | (with_reducible refine Keeps.trans ?_ HK8.out) | (with_reducible refine same_then ?_ HK8.out (fun k hk => by omega)) | (with_reducible refine Keeps.trans ?_ HK7.out) | (with_reducible refine same_then ?_ HK7.out (fun k hk => by omega)) | (with_reducible refine Keeps.trans ?_ HK6.out) | (with_reducible refine same_then ?_ HK6.out (fun k hk => by omega)) | (with_reducible refine Keeps.trans ?_ HK5.out) | (with_reducible refine same_then ?_ HK5.out (fun k hk => by omega)) | (with_reducible refine Keeps.trans ?_ HK4.out) | (with_reducible refine same_then ?_ HK4.out (fun k hk => by omega)) | (with_reducible refine Keeps.trans ?_ HK3.out) | (with_reducible refine same_then ?_ HK3.out (fun k hk => by omega)) | (with_reducible refine Keeps.trans ?_ HK2.out) | (with_reducible refine same_then ?_ HK2.out (fun k hk => by omega)) | (with_reducible refine Keeps.trans ?_ HK1.out) | (with_reducible refine same_then ?_ HK1.out (fun k hk => by omega))))
set_option maxHeartbeats 2000000 in
set_option maxRecDepth 100000 in
theorem next_goes (s : St) (i : In) (v : Int) (hs : s.Ok) (hi : i.Ok) (v0 : 0 ≤ v) (v1 : v < 4294967296) (h : (doL s i v).2.c = 0) (he : decide (3 ≤ (kindM i.op).1) = false) (w : World) :
    Calls Try.prog 6 #[.agg (stA s), .agg (inA i), .int .u32 v] w fun e w' => e = .returned (.bool true) ∧ Same w w' := by
  have HD := hidE (fun w => do_any s i v hs hi v0 v1 w)
  have hnx := next_law s i v hs h (by simpa using he)
  have p0 := hs.pc0
  have p1 := hs.pc1
  generalize doL s i v = D at *
  obtain ⟨D1, ⟨D2, D3⟩⟩ := D
  obtain ⟨op, a, b, imm⟩ := i
  simp only [inA] at *
  have HE := hidE (fun w tb ht => ends_ok w tb op hi.o0 hi.o1 ht)
  rw [he] at HE
  subst h
  clear hs hi he
  rcases hnx with hX | hX | hX | hX
  all_goals
    go_enter Try.func6, Try.ntmps6
    go_wp2_with fail
    refine (HD.out _).mono ?_
    rintro e w1 ⟨rfl, hk⟩
    (obtain ⟨hc1, hf1, hr1, -, -, -⟩ := same_facts hk); have lt_w1_0 : w.heap.size < w1.heap.size := (by have hh := (hk).size; (try simp at hh); omega); have lt_w1_1 : w.heap.size + 1 < w1.heap.size := (by have hh := (hk).size; (try simp at hh); omega); have lt1_w1_0 : w.heap.size < w1.heap.size + 1 := (by omega); have lt2_w1_0 : w.heap.size < w1.heap.size + 1 + 1 := (by omega); have lt1_w1_1 : w.heap.size + 1 < w1.heap.size + 1 := (by omega); have lt2_w1_1 : w.heap.size + 1 < w1.heap.size + 1 + 1 := (by omega); have rw_w1_0 := (hr1 (w.heap.size) (by (try simp); (try omega))).trans (show rowAt _ (w.heap.size) = _ by go_simp; rfl); have rw_w1_1 := (hr1 (w.heap.size + 1) (by (try simp); (try omega))).trans (show rowAt _ (w.heap.size + 1) = _ by go_simp; rfl); have HK1 := hidE hk; clear hk
    go_wp2_with fail
    refine (kind_new _).mono ?_
    rintro e w2 ⟨rfl, htn, hk⟩
    (obtain ⟨hc2, hf2, hr2, -, -, -⟩ := same_facts hk); have lt_w2_0 : w1.heap.size < w2.heap.size := (by have hh := (hk).size; (try simp at hh); omega); have lt_w2_1 : w1.heap.size + 1 < w2.heap.size := (by have hh := (hk).size; (try simp at hh); omega); have lt1_w2_0 : w1.heap.size < w2.heap.size + 1 := (by omega); have lt2_w2_0 : w1.heap.size < w2.heap.size + 1 + 1 := (by omega); have lt1_w2_1 : w1.heap.size + 1 < w2.heap.size + 1 := (by omega); have lt2_w2_1 : w1.heap.size + 1 < w2.heap.size + 1 + 1 := (by omega); have rw_w2_0 := (hr2 (w1.heap.size) (by (try simp); (try omega))).trans (show rowAt _ (w1.heap.size) = _ by go_simp; rfl); have rw_w2_1 := (hr2 (w1.heap.size + 1) (by (try simp); (try omega))).trans (show rowAt _ (w1.heap.size + 1) = _ by go_simp; rfl); have HK2 := hidE hk; clear hk
    have lt_w2_0 : w.heap.size < w2.heap.size := (by have hh := (HK2.out).size; (try simp at hh); omega); have lt_w2_1 : w.heap.size + 1 < w2.heap.size := (by have hh := (HK2.out).size; (try simp at hh); omega); have lt1_w2_0 : w.heap.size < w2.heap.size + 1 := (by omega); have lt2_w2_0 : w.heap.size < w2.heap.size + 1 + 1 := (by omega); have lt1_w2_1 : w.heap.size + 1 < w2.heap.size + 1 := (by omega); have lt2_w2_1 : w.heap.size + 1 < w2.heap.size + 1 + 1 := (by omega)
    have nn_w1_0_0 : w.heap.size ≠ w1.heap.size := (by omega); have mm_w1_0_0 : w1.heap.size ≠ w.heap.size := (by omega); have nn_w1_1_0 : w.heap.size ≠ w1.heap.size + 1 := (by omega); have mm_w1_1_0 : w1.heap.size + 1 ≠ w.heap.size := (by omega); have nn_w1_2_0 : w.heap.size ≠ w1.heap.size + 1 + 1 := (by omega); have mm_w1_2_0 : w1.heap.size + 1 + 1 ≠ w.heap.size := (by omega); have nn_w1_0_1 : w.heap.size + 1 ≠ w1.heap.size := (by omega); have mm_w1_0_1 : w1.heap.size ≠ w.heap.size + 1 := (by omega); have nn_w1_1_1 : w.heap.size + 1 ≠ w1.heap.size + 1 := (by omega); have mm_w1_1_1 : w1.heap.size + 1 ≠ w.heap.size + 1 := (by omega); have nn_w1_2_1 : w.heap.size + 1 ≠ w1.heap.size + 1 + 1 := (by omega); have mm_w1_2_1 : w1.heap.size + 1 + 1 ≠ w.heap.size + 1 := (by omega)
    simp only [World.size_alloc] at htn
    have HT := hidE htn
    clear htn
    go_wp2_with fail
    refine (HE.out _ _ (.inl HT.out)).mono ?_
    rintro e w3 ⟨rfl, hk, ht⟩
    obtain ⟨hc3, hf3, hr3⟩ := keeps_factsR hk
    have lt_w3_0 : w1.heap.size < w3.heap.size := (by have hh := (hk).size; (try simp at hh); omega); have lt_w3_1 : w1.heap.size + 1 < w3.heap.size := (by have hh := (hk).size; (try simp at hh); omega); have lt1_w3_0 : w1.heap.size < w3.heap.size + 1 := (by omega); have lt2_w3_0 : w1.heap.size < w3.heap.size + 1 + 1 := (by omega); have lt1_w3_1 : w1.heap.size + 1 < w3.heap.size + 1 := (by omega); have lt2_w3_1 : w1.heap.size + 1 < w3.heap.size + 1 + 1 := (by omega)
    have HK3 := hidE hk
    clear hk ht
    go_wp2_with fail
    refine (works8 _).mono ?_
    rintro e w9 ⟨rfl, hk⟩
    have HK9 := hidE hk
    clear hk
    go_wp2
    go_ret
    refine ⟨rfl, ?_⟩
    refine Keeps.trans ?_ HK9.out
    (repeat (first | with_reducible exact Keeps.refl _ _ | (with_reducible refine Keeps.drew ?_) | (with_reducible refine Keeps.alloc ?_ _) | (with_reducible refine Keeps.setRow ?_ (fun h => absurd h (by omega)) _) | (with_reducible refine Keeps.setCell ?_ (fun h => absurd h (by simp only []; omega)) _) | (with_reducible refine Keeps.trans ?_ HK8.out) | (with_reducible refine same_then ?_ HK8.out (fun k hk => by omega)) | (with_reducible refine Keeps.trans ?_ HK7.out) | (with_reducible refine same_then ?_ HK7.out (fun k hk => by omega)) | (with_reducible refine Keeps.trans ?_ HK6.out) | (with_reducible refine same_then ?_ HK6.out (fun k hk => by omega)) | (with_reducible refine Keeps.trans ?_ HK5.out) | (with_reducible refine same_then ?_ HK5.out (fun k hk => by omega)) | (with_reducible refine Keeps.trans ?_ HK4.out) | (with_reducible refine same_then ?_ HK4.out (fun k hk => by omega)) | (with_reducible refine Keeps.trans ?_ HK3.out) | (with_reducible refine same_then ?_ HK3.out (fun k hk => by omega)) | (with_reducible refine Keeps.trans ?_ HK2.out) | (with_reducible refine same_then ?_ HK2.out (fun k hk => by omega)) | (with_reducible refine Keeps.trans ?_ HK1.out) | (with_reducible refine same_then ?_ HK1.out (fun k hk => by omega))))
theorem coreNext_any (s : St) (i : In) (v : Int) (hs : s.Ok) (hi : i.Ok) (v0 : 0 ≤ v) (v1 : v < 4294967296) (w : World) :
    Calls Try.prog 6 #[.agg (stA s), .agg (inA i), .int .u32 v] w fun e w' => e = .returned (.bool true) ∧ Same w w' := by
  by_cases h : (doL s i v).2.c = 0
  · cases he : decide (3 ≤ (kindM i.op).1)
    · exact next_goes s i v hs hi v0 v1 h he w
    · exact next_ends s i v hs hi v0 v1 h he w
  · exact next_fault s i v hs hi v0 v1 h w
theorem coreNext_walk (w : World) (s0 : Array Value) (h0 : RdV Try.prog w 25 s0.toList) (s1 : Array Value) (h1 : RdV Try.prog w 27 s1.toList) (x2 : Int) (h2 : RdV Try.prog w 22 [.int .u32 x2]) :
    Calls Try.prog 6 #[.agg s0, .agg s1, .int .u32 x2] w fun e w' => e = .returned (.bool true) ∧ Below w.heap.size w w' := by
  obtain ⟨s, rfl, hs⟩ := st_open h0
  obtain ⟨i, rfl, hi⟩ := in_open h1
  obtain ⟨_, hx, l2, m2⟩ := RdV.int (k := .u32) h2 Try.underlying22
  cases hx
  simp [IntKind.min, IntKind.max, IntKind.bits, IntKind.signed] at l2 m2
  exact (coreNext_any s i x2 hs hi l2 (by omega) w).mono fun e w' h => ⟨h.1, same_below h.2⟩
end Go.Proofs.Ytdbfjgmehmbefaa
