/- The law's own question: a difference. -/
import Derived.Test.YtdbfjgmehmbefaaCore10
import Derived.Test.YtdbfjgmehmbefaaOpen8
namespace Go.Proofs.Ytdbfjgmehmbefaa
open Go.RowKit
attribute [local go_sem ↓] x_ldS x_stS x_ldI x_stI x_ldA x_stA x_ldF x_stF
attribute [local go_sem] ne_s1 en_s1 ne_s2 en_s2 ne_s3 en_s3 ne_s4 en_s4 ne_s5 en_s5 ne_s6 en_s6 ne_s7 en_s7 ne_s8 en_s8 ne_s9 en_s9 ne_s10 en_s10 ne_s11 en_s11 lt_s2 lt_s3 lt_s4 lt_s5 lt_s6 lt_s7 lt_s8 lt_s9 lt_s10 lt_s11 rowAt_at rowAt_old rowAt_drew rowAt_drewN setRow_drew setRow_at setRow_old setCell_row setRow_setRow rowAt_setRow_eq rowAt_setRow_ne cell_setRow_eq cell_setRow_ne frozen_setRow_eq frozen_setRow_ne ones_lit oc_int oc_bool oc_str oc_ptr oc_sl oc_map oc_fn oc_nf oc_ni oc_if ld_S st_S ld_I st_I ld_A st_A ld_F st_F sa_size sa_one ac_size fl_size ac_one fl_one fl_c fl_a fg_c fg_a sa_pc sa_ps sg_pc sg_ps sa_r6 sa_r7 sg_r6 sg_r7 sa_r sg_r ss_pc ss_ps ss_r6 ss_r7 ss_r st0_eq

theorem built_100 (_w : World) : ∀ x, x = (#[Value.int .u32 0, .int .u32 0, .int .u32 0, .int .u32 0, .int .u32 0, .int .u32 0, .int .u32 0, .int .u32 0, .int .u32 100, .int .u32 0, .int .u32 0, .int .u32 0, .int .u32 0, .int .u32 0, .int .u32 0, .int .u32 0, .int .u32 0, .int .u32 0, .bool false] : Array Value) → x = stA (st0.setPc 100) := fun _ h => h
def s8 : St := ((st0.setPc 100).setR 1 7).setR 2 2
theorem s8_ok : s8.Ok := by
  refine ⟨fun k => ?_, fun k => ?_, by decide, by decide, by decide, by decide⟩
  · simp only [s8, St.setR, St.setPc, st0]; split <;> (try split) <;> decide
  · simp only [s8, St.setR, St.setPc, st0]; split <;> (try split) <;> decide
theorem s8_1 : (doL s8 ⟨18, 1, 2, 0⟩ 0).1.R 1 = 5 := by decide +kernel
theorem s8_2 : (doL s8 ⟨18, 1, 2, 0⟩ 0).1.pc = 102 := by decide +kernel
theorem s8_3 : (doL s8 ⟨18, 1, 2, 0⟩ 0).2.c = 0 := by decide +kernel
theorem s8_eq : ((st0.setPc 100).setR 1 7).setR 2 2 = s8 := rfl
theorem s100_eq : #[Value.int .u32 0, .int .u32 0, .int .u32 0, .int .u32 0, .int .u32 0, .int .u32 0, .int .u32 0, .int .u32 0, .int .u32 100, .int .u32 0, .int .u32 0, .int .u32 0, .int .u32 0, .int .u32 0, .int .u32 0, .int .u32 0, .int .u32 0, .int .u32 0, .bool false] = stA (st0.setPc 100) := rfl
attribute [local go_sem] s100_eq
set_option maxHeartbeats 2000000 in
set_option maxRecDepth 100000 in
theorem works8 (w : World) : Calls Try.prog 16 #[] w fun e w' => e = .returned (.bool true) ∧ Same w w' := by
  have HD := hidE (fun w => do_any s8 ⟨18, 1, 2, 0⟩ 0 s8_ok ⟨by decide, by decide, by decide, by decide, by decide, by decide, by decide, by decide⟩ (by decide) (by decide) w)
  have e1 := s8_1
  have e2 := s8_2
  have e3 := s8_3
  generalize doL s8 ⟨18, 1, 2, 0⟩ 0 = D at HD e1 e2 e3
  simp only [inA] at HD
  obtain ⟨D1, ⟨D2, D3⟩⟩ := D
  simp only at e1 e2 e3 HD
  subst e3
  go_enter Try.func16, Try.ntmps16
  go_wp2_with fail
  simp only [s8_eq]
  refine (HD.out _).mono ?_
  rintro e w1 ⟨rfl, hk⟩
  (obtain ⟨hc1, hf1, hr1, -, -, -⟩ := same_facts hk); have lt_w1_0 : w.heap.size < w1.heap.size := (by have hh := (hk).size; (try simp at hh); omega); have lt1_w1_0 : w.heap.size < w1.heap.size + 1 := (by omega); have lt2_w1_0 : w.heap.size < w1.heap.size + 1 + 1 := (by omega); have rw_w1_0 := (hr1 (w.heap.size) (by (try simp); (try omega))).trans (show rowAt _ (w.heap.size) = _ by go_simp; rfl); have HK1 := hidE hk; clear hk
  go_wp2
  go_ret
  refine ⟨rfl, ?_⟩
  (repeat (first | with_reducible exact Keeps.refl _ _ | (with_reducible refine Keeps.drew ?_) | (with_reducible refine Keeps.alloc ?_ _) | (with_reducible refine Keeps.setRow ?_ (fun h => absurd h (by omega)) _) | (with_reducible refine Keeps.setCell ?_ (fun h => absurd h (by simp only []; omega)) _) | (with_reducible refine Keeps.trans ?_ HK8.out) | (with_reducible refine same_then ?_ HK8.out (fun k hk => by omega)) | (with_reducible refine Keeps.trans ?_ HK7.out) | (with_reducible refine same_then ?_ HK7.out (fun k hk => by omega)) | (with_reducible refine Keeps.trans ?_ HK6.out) | (with_reducible refine same_then ?_ HK6.out (fun k hk => by omega)) | (with_reducible refine Keeps.trans ?_ HK5.out) | (with_reducible refine same_then ?_ HK5.out (fun k hk => by omega)) | (with_reducible refine Keeps.trans ?_ HK4.out) | (with_reducible refine same_then ?_ HK4.out (fun k hk => by omega)) | (with_reducible refine Keeps.trans ?_ HK3.out) | (with_reducible refine same_then ?_ HK3.out (fun k hk => by omega)) | (with_reducible refine Keeps.trans ?_ HK2.out) | (with_reducible refine same_then ?_ HK2.out (fun k hk => by omega)) | (with_reducible refine Keeps.trans ?_ HK1.out) | (with_reducible refine same_then ?_ HK1.out (fun k hk => by omega))))
end Go.Proofs.Ytdbfjgmehmbefaa
