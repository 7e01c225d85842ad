/- The walk of the statement CoreTwice. -/
import Derived.Test.YtdbfjgmehmbefaaWorks8
import Derived.Test.YtdbfjgmehmbefaaBitsQ
namespace Go.Proofs.Ytdbfjgmehmbefaa
open Go.RowKit
attribute [local go_sem ↓] x_ldS x_stS x_ldI x_stI x_ldA x_stA x_ldF x_stF
attribute [local go_sem] ne_s1 en_s1 ne_s2 en_s2 ne_s3 en_s3 ne_s4 en_s4 ne_s5 en_s5 ne_s6 en_s6 ne_s7 en_s7 ne_s8 en_s8 ne_s9 en_s9 ne_s10 en_s10 ne_s11 en_s11 lt_s2 lt_s3 lt_s4 lt_s5 lt_s6 lt_s7 lt_s8 lt_s9 lt_s10 lt_s11 rowAt_at rowAt_old rowAt_drew rowAt_drewN setRow_drew setRow_at setRow_old setCell_row setRow_setRow rowAt_setRow_eq rowAt_setRow_ne cell_setRow_eq cell_setRow_ne frozen_setRow_eq frozen_setRow_ne ones_lit oc_int oc_bool oc_str oc_ptr oc_sl oc_map oc_fn oc_nf oc_ni oc_if ld_S st_S ld_I st_I ld_A st_A ld_F st_F sa_size sa_one ac_size fl_size ac_one fl_one fl_c fl_a fg_c fg_a sa_pc sa_ps sg_pc sg_ps sa_r6 sa_r7 sg_r6 sg_r7 sa_r sg_r ss_pc ss_ps ss_r6 ss_r7 ss_r st0_eq

theorem may_1 (op a b : Int) (h : clsOf op false = 1) (a1 : a < 8) (b1 : b < 8) : mayB ⟨op, a, b, 0⟩ false = true := by
  unfold mayB formL
  simp only [h, fmOf, fitsB]
  simp
  omega
theorem twice1 (s : St) (x y : Int) (x1 : x < 8) (y1 : y < 8) : doL s ⟨16, x, y, 0⟩ 0 = ((s.setPc ((s.pc + 2) % 4294967296)).setR x.toNat (s.R y.toNat), fl0) := by
  unfold doL
  rw [if_neg (by simp [noneB, may_1 16 x y rfl x1 y1])]
  rfl
theorem sub_self' (a : Int) (h0 : 0 ≤ a) (h1 : a < 4294967296) : subR a a = 0 ∧ subF a a = 16 := by
  have e : subR a a = 0 := by simp [subR]
  refine ⟨e, ?_⟩
  unfold subF
  rw [e, xor_self a h0 h1, and_zero_l _ (bits_lo_u32 _ _ _) (by have := bits_hi_u32 .xor a 0; omega)]
  simp [flg, zn]
theorem twice2 (t : St) (x : Int) (x1 : x < 8) (h0 : 0 ≤ t.R x.toNat) (h1 : t.R x.toNat < 4294967296) : doL t ⟨18, x, x, 0⟩ 0 = (turnS ((t.setPc ((t.pc + 2) % 4294967296)).setR x.toNat 0) 16, fl0) := by
  unfold doL
  rw [if_neg (by simp [noneB, may_1 18 x x rfl x1 x1])]
  obtain ⟨e1, e2⟩ := sub_self' (t.R x.toNat) h0 h1
  show (turnS ((t.setPc ((t.pc + 2) % 4294967296)).setR x.toNat (subR (t.R x.toNat) (t.R x.toNat))) (subF (t.R x.toNat) (t.R x.toNat)), fl0) = _
  rw [e1, e2]
theorem setR_same (s : St) (k : Nat) (v : Int) : (s.setR k v).R k = v := by simp [St.setR]
theorem setR_ok {s : St} {k : Nat} {v : Int} (h : s.Ok) (v0 : 0 ≤ v) (v1 : v < 4294967296) : (s.setR k v).Ok :=
  ⟨fun j => by simp only [St.setR]; split; assumption; exact h.r0 j, fun j => by simp only [St.setR]; split; assumption; exact h.r1 j, h.pc0, h.pc1, h.ps0, h.ps1⟩
set_option maxHeartbeats 2000000 in
set_option maxRecDepth 100000 in
theorem coreTwice_walk (w : World) (s0 : Array Value) (h0 : RdV Try.prog w 25 s0.toList) (x1 : Int) (h1 : RdV Try.prog w 5 [.int .u8 x1]) (x2 : Int) (h2 : RdV Try.prog w 5 [.int .u8 x2]) :
    Calls Try.prog 5 #[.agg s0, .int .u8 x1, .int .u8 x2] w fun e w' => e = .returned (.bool true) ∧ Below w.heap.size w w' := by
  obtain ⟨s, rfl, hs⟩ := st_open h0
  obtain ⟨_, hx, l1, m1⟩ := RdV.int (k := .u8) h1 Try.underlying5
  cases hx
  obtain ⟨_, hx, l2, m2⟩ := RdV.int (k := .u8) h2 Try.underlying5
  cases hx
  simp [IntKind.min, IntKind.max, IntKind.bits, IntKind.signed] at l1 m1 l2 m2
  clear h0 h1 h2
  have a0 : 0 ≤ x1 % 8 := by omega
  have a1 : x1 % 8 < 8 := by omega
  have b0 : 0 ≤ x2 % 8 := by omega
  have b1 : x2 % 8 < 8 := by omega
  have ha : (x1 % 8).toNat < 8 := by omega
  have hb : (x2 % 8).toNat < 8 := by omega
  have HD1 := hidE (fun w => do_any s ⟨16, x1 % 8, x2 % 8, 0⟩ 0 hs ⟨by simp, by simp, a0, by simp only; omega, b0, by simp only; omega, by simp, by simp⟩ (by decide) (by decide) w)
  simp only [twice1 s _ _ a1 b1] at HD1
  obtain ⟨T, hT⟩ : ∃ T, T = (s.setPc ((s.pc + 2) % 4294967296)).setR (x1 % 8).toNat (s.R (x2 % 8).toNat) := ⟨_, rfl⟩
  have tok : T.Ok := by rw [hT]; exact setR_ok (setPc_ok hs (by omega) (by omega)) (hs.r0 _) (hs.r1 _)
  have e1 : T.R (x1 % 8).toNat = s.R (x2 % 8).toNat := by rw [hT, setR_same]
  have p1 : T.pc = (s.pc + 2) % 4294967296 := by rw [hT]; rfl
  rw [← hT] at HD1
  have HD2 := hidE (fun w => do_any T ⟨18, x1 % 8, x1 % 8, 0⟩ 0 tok ⟨by simp, by simp, a0, by simp only; omega, a0, by simp only; omega, by simp, by simp⟩ (by decide) (by decide) w)
  simp only [twice2 T _ a1 (tok.r0 _) (tok.r1 _)] at HD2
  obtain ⟨U, hU⟩ : ∃ U, U = turnS ((T.setPc ((T.pc + 2) % 4294967296)).setR (x1 % 8).toNat 0) 16 := ⟨_, rfl⟩
  have e2 : U.R (x1 % 8).toNat = 0 := by rw [hU]; exact setR_same _ _ _
  have e3 : U.ps = T.ps - T.ps / 16 % 16 * 16 + 16 := by rw [hU]; exact turn_ps T.ps 16 tok.ps0 tok.ps1 (by omega) (by omega) (by omega)
  have e4 : (U.pc == IntKind.u32.wrap (s.pc + 4)) = true := by
    have : U.pc = (T.pc + 2) % 4294967296 := by rw [hU]; rfl
    rw [this, p1, IntKind.wrap_u32']
    simp; omega
  have t0 := tok.ps0
  have t1 := tok.ps1
  have u0 : 0 ≤ U.ps := by omega
  have u1 : U.ps < 4294967296 := by omega
  have e5 : (bits .and .u32 U.ps 16 != 0) = true := by rw [and_16 _ u0 u1]; simp; omega
  have e6 : (bits .and .u32 U.ps 224 == 0) = true := by rw [and_224 _ u0 u1]; simp; omega
  rw [← hU] at HD2
  simp only [inA] at HD1 HD2
  have E1 := hidE e1
  have E2 := hidE e2
  clear hT hU p1 e1 e2 e3 t0 t1 u0 u1 tok hs
  have E4 := hidE e4
  have E5 := hidE e5
  have E6 := hidE e6
  clear e4 e5 e6
  go_enter Try.func5, Try.ntmps5
  go_wp2_with fail
  refine (HD1.out _).mono ?_
  rintro e w1 ⟨rfl, hk⟩
  (obtain ⟨hc1, hf1, hr1, -, -, -⟩ := same_facts hk); have lt_w1_0 : w.heap.size < w1.heap.size := (by have hh := (hk).size; (try simp at hh); omega); have lt1_w1_0 : w.heap.size < w1.heap.size + 1 := (by omega); have lt2_w1_0 : w.heap.size < w1.heap.size + 1 + 1 := (by omega); have rw_w1_0 := (hr1 (w.heap.size) (by (try simp); (try omega))).trans (show rowAt _ (w.heap.size) = _ by go_simp; rfl); have HK1 := hidE hk; clear hk
  go_wp2_with fail
  refine (HD2.out _).mono ?_
  rintro e w2 ⟨rfl, hk⟩
  (obtain ⟨hc2, hf2, hr2, -, -, -⟩ := same_facts hk); have lt_w2_0 : w1.heap.size < w2.heap.size := (by have hh := (hk).size; (try simp at hh); omega); have lt_w2_1 : w1.heap.size + 1 < w2.heap.size := (by have hh := (hk).size; (try simp at hh); omega); have lt1_w2_0 : w1.heap.size < w2.heap.size + 1 := (by omega); have lt2_w2_0 : w1.heap.size < w2.heap.size + 1 + 1 := (by omega); have lt1_w2_1 : w1.heap.size + 1 < w2.heap.size + 1 := (by omega); have lt2_w2_1 : w1.heap.size + 1 < w2.heap.size + 1 + 1 := (by omega); have rw_w2_0 := (hr2 (w1.heap.size) (by (try simp); (try omega))).trans (show rowAt _ (w1.heap.size) = _ by go_simp; rfl); have rw_w2_1 := (hr2 (w1.heap.size + 1) (by (try simp); (try omega))).trans (show rowAt _ (w1.heap.size + 1) = _ by go_simp; rfl); have HK2 := hidE hk; clear hk
  have lt_w2_0 : w.heap.size < w2.heap.size := (by have hh := (HK2.out).size; (try simp at hh); omega); have lt1_w2_0 : w.heap.size < w2.heap.size + 1 := (by omega); have lt2_w2_0 : w.heap.size < w2.heap.size + 1 + 1 := (by omega)
  have nn_w1_0_0 : w.heap.size ≠ w1.heap.size := (by omega); have mm_w1_0_0 : w1.heap.size ≠ w.heap.size := (by omega); have nn_w1_1_0 : w.heap.size ≠ w1.heap.size + 1 := (by omega); have mm_w1_1_0 : w1.heap.size + 1 ≠ w.heap.size := (by omega)
  go_wp2_with fail
  have e1 := E1.out
  have e2 := E2.out
  have e4 := E4.out
  have e5 := E5.out
  have e6 := E6.out
  refine wp_region_ra [0, 1, 2, 3, 4, 5, 6, 7, 8, 9, 10, 11, 12, 13, 14, 15, 16, 17, 18, 19, 20, 21, 22, 23, 24, 25, 26, 27, 28, 29, 30, 31, 32, 33, 34, 35, 36, 37, 38, 39, 40, 41, 42, 43, 44, 45, 46] [] 0 (Same _) (by kernel_rfl) (by kernel_rfl) (fun u u' h k => Keeps.trans h k) (Keeps.refl _ _).drew ?_
  simp only [opsOf, List.filterMap_cons, List.filterMap_nil, List.getElem?_cons_zero, List.getElem?_cons_succ]
  repeat (refine seqV_run (v := ?_) rfl (fun u hu => ?_) ?_; rotate_left; (focus (obtain ⟨hc, hf, hr, hl, hn, hm⟩ := same_facts hu; clear hu; go_simp; first | done | with_reducible rfl)); (try simp only [Act.put, List.setIfInBounds_toArray, List.set_cons_zero, List.set_cons_succ]))
  refine seqV_nil ?_
  refine tailR_zero fun u hu _ => ?_
  have HK3 := hidE hu
  clear hu
  go_wp2
  go_ret
  refine ⟨rfl, same_below ?_⟩
  (repeat (first | with_reducible exact Keeps.refl _ _ | (with_reducible refine Keeps.drew ?_) | (with_reducible refine Keeps.alloc ?_ _) | (with_reducible refine Keeps.setRow ?_ (fun h => absurd h (by omega)) _) | (with_reducible refine Keeps.setCell ?_ (fun h => absurd h (by simp only []; omega)) _) | (with_reducible refine Keeps.trans ?_ HK8.out) | (with_reducible refine same_then ?_ HK8.out (fun k hk => by omega)) | (with_reducible refine Keeps.trans ?_ HK7.out) | (with_reducible refine same_then ?_ HK7.out (fun k hk => by omega)) | (with_reducible refine Keeps.trans ?_ HK6.out) | (with_reducible refine same_then ?_ HK6.out (fun k hk => by omega)) | (with_reducible refine Keeps.trans ?_ HK5.out) | (with_reducible refine same_then ?_ HK5.out (fun k hk => by omega)) | (with_reducible refine Keeps.trans ?_ HK4.out) | (with_reducible refine same_then ?_ HK4.out (fun k hk => by omega)) | (with_reducible refine Keeps.trans ?_ HK3.out) | (with_reducible refine same_then ?_ HK3.out (fun k hk => by omega)) | (with_reducible refine Keeps.trans ?_ HK2.out) | (with_reducible refine same_then ?_ HK2.out (fun k hk => by omega)) | (with_reducible refine Keeps.trans ?_ HK1.out) | (with_reducible refine same_then ?_ HK1.out (fun k hk => by omega))))
end Go.Proofs.Ytdbfjgmehmbefaa
