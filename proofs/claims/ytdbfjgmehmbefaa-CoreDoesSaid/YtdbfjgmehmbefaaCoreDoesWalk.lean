/- The walk of the statement CoreDoes. -/
import Derived.Test.YtdbfjgmehmbefaaRef8
import Derived.Test.YtdbfjgmehmbefaaWorks8
import Derived.Test.YtdbfjgmehmbefaaEqAF
namespace Go.Proofs.Ytdbfjgmehmbefaa
open Go.RowKit
attribute [local go_sem ↓] x_ldS x_stS x_ldI x_stI x_ldA x_stA x_ldF x_stF
attribute [local go_sem] ne_s1 en_s1 ne_s2 en_s2 ne_s3 en_s3 ne_s4 en_s4 ne_s5 en_s5 ne_s6 en_s6 ne_s7 en_s7 ne_s8 en_s8 ne_s9 en_s9 ne_s10 en_s10 ne_s11 en_s11 lt_s2 lt_s3 lt_s4 lt_s5 lt_s6 lt_s7 lt_s8 lt_s9 lt_s10 lt_s11 rowAt_at rowAt_old rowAt_drew rowAt_drewN setRow_drew setRow_at setRow_old setCell_row setRow_setRow rowAt_setRow_eq rowAt_setRow_ne cell_setRow_eq cell_setRow_ne frozen_setRow_eq frozen_setRow_ne ones_lit oc_int oc_bool oc_str oc_ptr oc_sl oc_map oc_fn oc_nf oc_ni oc_if ld_S st_S ld_I st_I ld_A st_A ld_F st_F sa_size sa_one ac_size fl_size ac_one fl_one fl_c fl_a fg_c fg_a sa_pc sa_ps sg_pc sg_ps sa_r6 sa_r7 sg_r6 sg_r7 sa_r sg_r ss_pc ss_ps ss_r6 ss_r7 ss_r st0_eq
attribute [local go_sem ↓] x_eqF2 x_eqS
attribute [local go_sem] eq_F2 eq_S
set_option maxHeartbeats 2000000 in
set_option maxRecDepth 100000 in
theorem coreDoes_walk (w : World) (s0 : Array Value) (h0 : RdV Try.prog w 25 s0.toList) (s1 : Array Value) (h1 : RdV Try.prog w 27 s1.toList) (x2 : Int) (h2 : RdV Try.prog w 22 [.int .u32 x2]) :
    Calls Try.prog 4 #[.agg s0, .agg s1, .int .u32 x2] w fun e w' => e = .returned (.bool true) ∧ Below w.heap.size w w' := by
  obtain ⟨s, rfl, hs⟩ := st_open h0
  obtain ⟨i, rfl, hi⟩ := in_open h1
  obtain ⟨_, hx, l2, m2⟩ := RdV.int (k := .u32) h2 Try.underlying22
  cases hx
  simp [IntKind.min, IntKind.max, IntKind.bits, IntKind.signed] at l2 m2
  clear h0 h1 h2
  have HA := hidE (fun w => do_any s i x2 hs hi l2 (by omega) w)
  have HB := hidE (fun w => rdo_any s i x2 hs hi l2 (by omega) w)
  generalize doL s i x2 = D at *
  obtain ⟨D1, D2⟩ := D
  obtain ⟨op, a, b, imm⟩ := i
  simp only [inA] at *
  clear hs hi
  go_enter Try.func4, Try.ntmps4
  go_wp2_with fail
  refine (HA.out _).mono ?_
  rintro e w1 ⟨rfl, hk⟩
  (obtain ⟨hc1, hf1, hr1, -, -, -⟩ := same_facts hk); have lt_w1_0 : w.heap.size < w1.heap.size := (by have hh := (hk).size; (try simp at hh); omega); have lt_w1_1 : w.heap.size + 1 < w1.heap.size := (by have hh := (hk).size; (try simp at hh); omega); have lt1_w1_0 : w.heap.size < w1.heap.size + 1 := (by omega); have lt2_w1_0 : w.heap.size < w1.heap.size + 1 + 1 := (by omega); have lt1_w1_1 : w.heap.size + 1 < w1.heap.size + 1 := (by omega); have lt2_w1_1 : w.heap.size + 1 < w1.heap.size + 1 + 1 := (by omega); have rw_w1_0 := (hr1 (w.heap.size) (by (try simp); (try omega))).trans (show rowAt _ (w.heap.size) = _ by go_simp; rfl); have rw_w1_1 := (hr1 (w.heap.size + 1) (by (try simp); (try omega))).trans (show rowAt _ (w.heap.size + 1) = _ by go_simp; rfl); have HK1 := hidE hk; clear hk
  go_wp2_with fail
  refine (HB.out _).mono ?_
  rintro e w2 ⟨rfl, hk⟩
  (obtain ⟨hc2, hf2, hr2, -, -, -⟩ := same_facts hk); have lt_w2_0 : w1.heap.size < w2.heap.size := (by have hh := (hk).size; (try simp at hh); omega); have lt_w2_1 : w1.heap.size + 1 < w2.heap.size := (by have hh := (hk).size; (try simp at hh); omega); have lt1_w2_0 : w1.heap.size < w2.heap.size + 1 := (by omega); have lt2_w2_0 : w1.heap.size < w2.heap.size + 1 + 1 := (by omega); have lt1_w2_1 : w1.heap.size + 1 < w2.heap.size + 1 := (by omega); have lt2_w2_1 : w1.heap.size + 1 < w2.heap.size + 1 + 1 := (by omega); have rw_w2_0 := (hr2 (w1.heap.size) (by (try simp); (try omega))).trans (show rowAt _ (w1.heap.size) = _ by go_simp; rfl); have rw_w2_1 := (hr2 (w1.heap.size + 1) (by (try simp); (try omega))).trans (show rowAt _ (w1.heap.size + 1) = _ by go_simp; rfl); have HK2 := hidE hk; clear hk
  have lt_w2_0 : w.heap.size < w2.heap.size := (by have hh := (HK2.out).size; (try simp at hh); omega); have lt_w2_1 : w.heap.size + 1 < w2.heap.size := (by have hh := (HK2.out).size; (try simp at hh); omega); have lt1_w2_0 : w.heap.size < w2.heap.size + 1 := (by omega); have lt2_w2_0 : w.heap.size < w2.heap.size + 1 + 1 := (by omega); have lt1_w2_1 : w.heap.size + 1 < w2.heap.size + 1 := (by omega); have lt2_w2_1 : w.heap.size + 1 < w2.heap.size + 1 + 1 := (by omega)
  go_wp2_with fail
  refine (works8 _).mono ?_
  rintro e w9 ⟨rfl, hk⟩
  have HK9 := hidE hk
  clear hk
  go_wp2
  go_ret
  refine ⟨rfl, same_below ?_⟩
  refine Keeps.trans ?_ HK9.out
  (repeat (first | with_reducible exact Keeps.refl _ _ | (with_reducible refine Keeps.drew ?_) | (with_reducible refine Keeps.alloc ?_ _) | (with_reducible refine Keeps.setRow ?_ (fun h => absurd h (by omega)) _) | (with_reducible refine Keeps.setCell ?_ (fun h => absurd h (by simp only []; omega)) _) | (with_reducible refine Keeps.trans ?_ HK8.out) | (with_reducible refine same_then ?_ HK8.out (fun k hk => by omega)) | (with_reducible refine Keeps.trans ?_ HK7.out) | (with_reducible refine same_then ?_ HK7.out (fun k hk => by omega)) | (with_reducible refine Keeps.trans ?_ HK6.out) | (with_reducible refine same_then ?_ HK6.out (fun k hk => by omega)) | (with_reducible refine Keeps.trans ?_ HK5.out) | (with_reducible refine same_then ?_ HK5.out (fun k hk => by omega)) | (with_reducible refine Keeps.trans ?_ HK4.out) | (with_reducible refine same_then ?_ HK4.out (fun k hk => by omega)) | (with_reducible refine Keeps.trans ?_ HK3.out) | (with_reducible refine same_then ?_ HK3.out (fun k hk => by omega)) | (with_reducible refine Keeps.trans ?_ HK2.out) | (with_reducible refine same_then ?_ HK2.out (fun k hk => by omega)) | (with_reducible refine Keeps.trans ?_ HK1.out) | (with_reducible refine same_then ?_ HK1.out (fun k hk => by omega))))
end Go.Proofs.Ytdbfjgmehmbefaa
