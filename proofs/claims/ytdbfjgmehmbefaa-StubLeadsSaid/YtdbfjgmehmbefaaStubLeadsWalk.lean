/- The walk of the statement StubLeads. -/
import Derived.Test.YtdbfjgmehmbefaaStubJ
import Derived.Test.YtdbfjgmehmbefaaCore10
import Derived.Test.YtdbfjgmehmbefaaRead
namespace Go.Proofs.Ytdbfjgmehmbefaa
open Go.RowKit
attribute [local go_sem ↓] x_ldS x_stS x_ldI x_stI x_ldA x_stA x_ldF x_stF
attribute [local go_sem] ne_s1 en_s1 ne_s2 en_s2 ne_s3 en_s3 ne_s4 en_s4 ne_s5 en_s5 ne_s6 en_s6 ne_s7 en_s7 ne_s8 en_s8 ne_s9 en_s9 ne_s10 en_s10 ne_s11 en_s11 lt_s2 lt_s3 lt_s4 lt_s5 lt_s6 lt_s7 lt_s8 lt_s9 lt_s10 lt_s11 rowAt_at rowAt_old rowAt_drew rowAt_drewN setRow_drew setRow_at setRow_old setCell_row setRow_setRow rowAt_setRow_eq rowAt_setRow_ne cell_setRow_eq cell_setRow_ne frozen_setRow_eq frozen_setRow_ne ones_lit oc_int oc_bool oc_str oc_ptr oc_sl oc_map oc_fn oc_nf oc_ni oc_if ld_S st_S ld_I st_I ld_A st_A ld_F st_F sa_size sa_one ac_size fl_size ac_one fl_one fl_c fl_a fg_c fg_a sa_pc sa_ps sg_pc sg_ps sa_r6 sa_r7 sg_r6 sg_r7 sa_r sg_r ss_pc ss_ps ss_r6 ss_r7 ss_r st0_eq
theorem sPC_eq (x : Int) : #[Value.int .u32 0, .int .u32 0, .int .u32 0, .int .u32 0, .int .u32 0, .int .u32 0, .int .u32 0, .int .u32 0, .int .u32 x, .int .u32 0, .int .u32 0, .int .u32 0, .int .u32 0, .int .u32 0, .int .u32 0, .int .u32 0, .int .u32 0, .int .u32 0, .bool false] = stA (st0.setPc x) := rfl
attribute [local go_sem] sPC_eq
theorem pc_ok (a : Int) (a0 : 0 ≤ a) (a1 : a < 4294967296) : (st0.setPc a).Ok := ⟨fun _ => by simp [St.setPc, st0], fun _ => by simp [St.setPc, st0], a0, a1, by simp [St.setPc, st0], by simp [St.setPc, st0]⟩
theorem leads_law (a t : Int) (a0 : 0 ≤ a) (a1 : a ≤ 32767) (b0 : 0 ≤ t) (b1 : t ≤ 32767) (h : -32768 ≤ t - a - 3) : (doL (st0.setPc a) ⟨64, 0, 0, t - a - 3⟩ 0).2.c = 0 ∧ (doL (st0.setPc a) ⟨64, 0, 0, t - a - 3⟩ 0).1.pc = t := by
  have e : doL (st0.setPc a) ⟨64, 0, 0, t - a - 3⟩ 0 = ((st0.setPc a).setPc (((a + 3) % 4294967296 + (t - a - 3)) % 4294967296), fl0) := by
    unfold doL
    rw [if_neg (by simp [noneB, may_64g (t - a - 3) h (by omega)])]
    rfl
  rw [e]
  exact ⟨rfl, by show ((a + 3) % 4294967296 + (t - a - 3)) % 4294967296 = t; omega⟩
set_option maxHeartbeats 2000000 in
set_option maxRecDepth 100000 in
theorem leads_far (x y : Int) (x0 : 0 ≤ x) (x1 : x < 65536) (y0 : 0 ≤ y) (y1 : y < 65536) (h : y % 32768 - x % 32768 - 3 < -32768) (w : World) :
    Calls Try.prog 10 #[.int .u16 x, .int .u16 y] w fun e w' => e = .returned (.bool true) ∧ Below w.heap.size w w' := by
  have a0 : 0 ≤ x % 32768 := by omega
  have a1 : x % 32768 ≤ 32767 := by omega
  have b0 : 0 ≤ y % 32768 := by omega
  have b1 : y % 32768 ≤ 32767 := by omega
  have HJ := hidE (fun w => jump_far (x % 32768) (y % 32768) a0 a1 b0 b1 h w)
  go_enter Try.func10, Try.ntmps10
  go_wp2_with fail
  refine (HJ.out _).mono ?_
  rintro e w1 ⟨rfl, hk⟩
  have HK1 := hidE hk
  clear hk
  go_wp2_with fail
  refine (works_19 _).mono ?_
  rintro e w9 ⟨rfl, hk⟩
  have HK9 := hidE hk
  clear hk
  go_wp2
  go_ret
  refine ⟨rfl, same_below ?_⟩
  refine Keeps.trans ?_ HK9.out
  (repeat (first | with_reducible exact Keeps.refl _ _ | (with_reducible refine Keeps.drew ?_) | (with_reducible refine Keeps.alloc ?_ _) | (with_reducible refine Keeps.setRow ?_ (fun h => absurd h (by omega)) _) | (with_reducible refine Keeps.setCell ?_ (fun h => absurd h (by simp only []; omega)) _) | (with_reducible refine Keeps.trans ?_ HK8.out) | (with_reducible refine same_then ?_ HK8.out (fun k hk => by omega)) | (with_reducible refine Keeps.trans ?_ HK7.out) | (with_reducible refine same_then ?_ HK7.out (fun k hk => by omega)) | (with_reducible refine Keeps.trans ?_ HK6.out) | (with_reducible refine same_then ?_ HK6.out (fun k hk => by omega)) | (with_reducible refine Keeps.trans ?_ HK5.out) | (with_reducible refine same_then ?_ HK5.out (fun k hk => by omega)) | (with_reducible refine Keeps.trans ?_ HK4.out) | (with_reducible refine same_then ?_ HK4.out (fun k hk => by omega)) | (with_reducible refine Keeps.trans ?_ HK3.out) | (with_reducible refine same_then ?_ HK3.out (fun k hk => by omega)) | (with_reducible refine Keeps.trans ?_ HK2.out) | (with_reducible refine same_then ?_ HK2.out (fun k hk => by omega)) | (with_reducible refine Keeps.trans ?_ HK1.out) | (with_reducible refine same_then ?_ HK1.out (fun k hk => by omega))))
set_option maxHeartbeats 2000000 in
set_option maxRecDepth 100000 in
theorem leads_near (x y : Int) (x0 : 0 ≤ x) (x1 : x < 65536) (y0 : 0 ≤ y) (y1 : y < 65536) (h : -32768 ≤ y % 32768 - x % 32768 - 3) (w : World) :
    Calls Try.prog 10 #[.int .u16 x, .int .u16 y] w fun e w' => e = .returned (.bool true) ∧ Below w.heap.size w w' := by
  have a0 : 0 ≤ x % 32768 := by omega
  have a1 : x % 32768 ≤ 32767 := by omega
  have b0 : 0 ≤ y % 32768 := by omega
  have b1 : y % 32768 ≤ 32767 := by omega
  have HJ := hidE (fun w => jump_yes (x % 32768) (y % 32768) a0 a1 b0 b1 h w)
  obtain ⟨l1, l2⟩ := leads_law (x % 32768) (y % 32768) a0 a1 b0 b1 h
  have HD := hidE (fun w => do_any (st0.setPc (x % 32768)) ⟨64, 0, 0, y % 32768 - x % 32768 - 3⟩ 0 (pc_ok _ a0 (by omega)) ⟨by simp, by simp, by simp, by simp, by simp, by simp, by simp only; omega, by simp only; omega⟩ (by decide) (by decide) w)
  simp only [inA] at HD
  generalize doL (st0.setPc (x % 32768)) ⟨64, 0, 0, y % 32768 - x % 32768 - 3⟩ 0 = D at HD l1 l2
  obtain ⟨D1, ⟨D2, D3⟩⟩ := D
  simp only at l1 l2 HD
  subst l1
  have HL2 := hidE l2
  clear l2
  go_enter Try.func10, Try.ntmps10
  go_wp2_with fail
  refine (HJ.out _).mono ?_
  rintro e w1 ⟨v, rfl, hv, hk⟩
  obtain ⟨g, cap, rfl, hcap, hg, hby⟩ := row_by hv (by simp [jmpL]) (by simp [jmpL]; omega)
  have hln : (jmpL (y % 32768 - x % 32768 - 3)).length = 3 := rfl
  rw [hln] at hby hcap ⊢
  have HDC := hidE (fun w hX => decode_any (some ⟨g, 0, none⟩) 3 cap false (fun j => (jmpL (y % 32768 - x % 32768 - 3)).getD j 0) w (by omega) hX)
  rw [dec_64 _ (y % 32768 - x % 32768 - 3) rfl rfl rfl h (by omega)] at HDC
  have HBY := hidE hby
  have HK1 := hidE hk
  clear hk hv hln hby
  go_wp2_with fail
  refine (HDC.out _ (.inr ⟨g, 0, rfl, hg, HBY.out⟩)).mono ?_
  rintro e w2 ⟨rfl, hk⟩
  have HK2 := hidE hk
  simp only [decV, inA]
  clear hk
  go_wp2_with fail
  refine (HD.out _).mono ?_
  rintro e w3 ⟨rfl, hk⟩
  (obtain ⟨hc3, hf3, hr3, -, -, -⟩ := same_facts hk); have lt_w3_0 : w2.heap.size < w3.heap.size := (by have hh := (hk).size; (try simp at hh); omega); have lt1_w3_0 : w2.heap.size < w3.heap.size + 1 := (by omega); have lt2_w3_0 : w2.heap.size < w3.heap.size + 1 + 1 := (by omega); have rw_w3_0 := (hr3 (w2.heap.size) (by (try simp); (try omega))).trans (show rowAt _ (w2.heap.size) = _ by go_simp; rfl); have HK3 := hidE hk; clear hk
  have l2 := HL2.out
  go_wp2_with fail
  refine (works_19 _).mono ?_
  rintro e w9 ⟨rfl, hk⟩
  have HK9 := hidE hk
  clear hk
  go_wp2
  go_ret
  refine ⟨rfl, same_below ?_⟩
  refine Keeps.trans ?_ HK9.out
  (repeat (first | with_reducible exact Keeps.refl _ _ | (with_reducible refine Keeps.drew ?_) | (with_reducible refine Keeps.alloc ?_ _) | (with_reducible refine Keeps.setRow ?_ (fun h => absurd h (by omega)) _) | (with_reducible refine Keeps.setCell ?_ (fun h => absurd h (by simp only []; omega)) _) | (with_reducible refine Keeps.trans ?_ HK8.out) | (with_reducible refine same_then ?_ HK8.out (fun k hk => by omega)) | (with_reducible refine Keeps.trans ?_ HK7.out) | (with_reducible refine same_then ?_ HK7.out (fun k hk => by omega)) | (with_reducible refine Keeps.trans ?_ HK6.out) | (with_reducible refine same_then ?_ HK6.out (fun k hk => by omega)) | (with_reducible refine Keeps.trans ?_ HK5.out) | (with_reducible refine same_then ?_ HK5.out (fun k hk => by omega)) | (with_reducible refine Keeps.trans ?_ HK4.out) | (with_reducible refine same_then ?_ HK4.out (fun k hk => by omega)) | (with_reducible refine Keeps.trans ?_ HK3.out) | (with_reducible refine same_then ?_ HK3.out (fun k hk => by omega)) | (with_reducible refine Keeps.trans ?_ HK2.out) | (with_reducible refine same_then ?_ HK2.out (fun k hk => by omega)) | (with_reducible refine Keeps.trans ?_ HK1.out) | (with_reducible refine same_then ?_ HK1.out (fun k hk => by omega))))
theorem stubLeads_walk (w : World) (x0 : Int) (h0 : RdV Try.prog w 48 [.int .u16 x0]) (x1 : Int) (h1 : RdV Try.prog w 48 [.int .u16 x1]) :
    Calls Try.prog 10 #[.int .u16 x0, .int .u16 x1] w fun e w' => e = .returned (.bool true) ∧ Below w.heap.size w w' := by
  obtain ⟨_, hx, l0, m0⟩ := RdV.int (k := .u16) h0 Try.underlying48
  cases hx
  obtain ⟨_, hx, l1, m1⟩ := RdV.int (k := .u16) h1 Try.underlying48
  cases hx
  simp [IntKind.min, IntKind.max, IntKind.bits, IntKind.signed] at l0 m0 l1 m1
  by_cases h : x1 % 32768 - x0 % 32768 - 3 < -32768
  · exact leads_far x0 x1 l0 (by omega) l1 (by omega) h w
  · exact leads_near x0 x1 l0 (by omega) l1 (by omega) (by omega) w
end Go.Proofs.Ytdbfjgmehmbefaa
