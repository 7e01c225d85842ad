/- Package core: Want. -/
import Derived.Test.YtdbfjgmehmbefaaCoreS
import Derived.Test.YtdbfjgmehmbefaaRa
namespace Go.Proofs.Ytdbfjgmehmbefaa
open Go.RowKit
attribute [local go_sem ↓] x_ldS x_stS x_ldI x_stI x_ldA x_stA x_ldF x_stF
attribute [local go_sem] ne_s1 en_s1 ne_s2 en_s2 ne_s3 en_s3 ne_s4 en_s4 ne_s5 en_s5 ne_s6 en_s6 ne_s7 en_s7 ne_s8 en_s8 ne_s9 en_s9 ne_s10 en_s10 ne_s11 en_s11 lt_s2 lt_s3 lt_s4 lt_s5 lt_s6 lt_s7 lt_s8 lt_s9 lt_s10 lt_s11 rowAt_at rowAt_old rowAt_drew rowAt_drewN setRow_drew setRow_at setRow_old setCell_row setRow_setRow rowAt_setRow_eq rowAt_setRow_ne cell_setRow_eq cell_setRow_ne frozen_setRow_eq frozen_setRow_ne ones_lit oc_int oc_bool oc_str oc_ptr oc_sl oc_map oc_fn oc_nf oc_ni oc_if ld_S st_S ld_I st_I ld_A st_A ld_F st_F sa_size sa_one ac_size fl_size ac_one fl_one fl_c fl_a fg_c fg_a sa_pc sa_ps sg_pc sg_ps sa_r6 sa_r7 sg_r6 sg_r7 sa_r sg_r ss_pc ss_ps ss_r6 ss_r7 ss_r st0_eq

theorem sh_8 (u : World) : (Op.shift .shl .u32 1 .i64 8).run Try.prog u = .ok (.int .u32 256) u := by kernel_rfl
theorem sh_16 (u : World) : (Op.shift .shl .u32 1 .i64 16).run Try.prog u = .ok (.int .u32 65536) u := by kernel_rfl
theorem sh_32 (u : World) : (Op.shift .shl .u32 1 .i64 32).run Try.prog u = .ok (.int .u32 0) u := by kernel_rfl
theorem wi_8 : IntKind.i64.wrap 8 = 8 := by decide
theorem wi_16 : IntKind.i64.wrap 16 = 16 := by decide
theorem wi_32 : IntKind.i64.wrap 32 = 32 := by decide
theorem wu_8 : IntKind.u32.wrap 255 = 255 := by decide
theorem wu_16 : IntKind.u32.wrap 65535 = 65535 := by decide
theorem wu_32 : IntKind.u32.wrap (-1) = 4294967295 := by decide
theorem low_4 (x : Int) (h0 : 0 ≤ x) (h1 : x < 4294967296) : bits .and .u32 x 4294967295 = lowL x 4 := by rw [and_all x h0 h1]; rfl
theorem low_2 (x : Int) (h0 : 0 ≤ x) (h1 : x < 4294967296) : bits .and .u32 x 65535 = lowL x 2 := by rw [and_65535 x h0 h1]; rfl
theorem low_1 (x : Int) (h0 : 0 ≤ x) (h1 : x < 4294967296) : bits .and .u32 x 255 = lowL x 1 := by rw [and_255 x h0 h1]; rfl
attribute [local go_sem] sh_8 sh_16 sh_32 wi_8 wi_16 wi_32 wu_8 wu_16 wu_32
set_option maxHeartbeats 2000000 in
set_option maxRecDepth 100000 in
theorem want_48 (s : St) (a b imm : Int) (hs : s.Ok) (b0 : 0 ≤ b) (b1 : b < 8) (a0 : 0 ≤ a) (a1 : a < 8) (hi : (⟨48, a, b, imm⟩ : In).Ok) (hm : mayB ⟨48, a, b, imm⟩ false = true) (he : ((s.R b.toNat + imm) % 4294967296) % 4 = 0) (w : World) :
    Calls Try.prog 14 #[.agg (stA s), .agg #[.int .u8 48, .int .u8 a, .int .u8 b, .int .i32 imm]] w fun e w' => e = .returned (.tuple #[.agg (acA (wishL s ⟨48, a, b, imm⟩).1), .agg (flA (wishL s ⟨48, a, b, imm⟩).2)]) ∧ Same w w' := by
  have HM : Hid (∀ w, _) := hidE (fun w => may_any _ false hi w)
  rw [hm] at HM
  simp only [inA] at HM
  have h8 : b.toNat < 8 := by omega
  have h9 : a.toNat < 8 := by omega
  have q0 := hs.r0 7
  have q1 := hs.r1 7
  have p0 := hs.r0 a.toNat
  have p1 := hs.r1 a.toNat
  have hx : (((s.R b.toNat + imm) % 4294967296) % 4 != 0) = false := by rw [he]; rfl
  have HX := hidE he
  clear he
  clear hm hi hs
  go_enter Try.func14, Try.ntmps14
  go_wp2_with fail
  refine (HM.out _).mono ?_
  rintro e w1 ⟨rfl, hk⟩
  obtain ⟨hc1, hf1, hr1, -, -, -⟩ := same_facts hk
  have lt_w1_0 : w.heap.size < w1.heap.size := (by have hh := (hk).size; (try simp at hh); omega); have lt_w1_1 : w.heap.size + 1 < w1.heap.size := (by have hh := (hk).size; (try simp at hh); omega); have lt_w1_2 : w.heap.size + 1 + 1 < w1.heap.size := (by have hh := (hk).size; (try simp at hh); omega); have lt_w1_3 : w.heap.size + 1 + 1 + 1 < w1.heap.size := (by have hh := (hk).size; (try simp at hh); omega); have lt1_w1_0 : w.heap.size < w1.heap.size + 1 := (by omega); have lt2_w1_0 : w.heap.size < w1.heap.size + 1 + 1 := (by omega); have lt1_w1_1 : w.heap.size + 1 < w1.heap.size + 1 := (by omega); have lt2_w1_1 : w.heap.size + 1 < w1.heap.size + 1 + 1 := (by omega); have lt1_w1_2 : w.heap.size + 1 + 1 < w1.heap.size + 1 := (by omega); have lt2_w1_2 : w.heap.size + 1 + 1 < w1.heap.size + 1 + 1 := (by omega); have lt1_w1_3 : w.heap.size + 1 + 1 + 1 < w1.heap.size + 1 := (by omega); have lt2_w1_3 : w.heap.size + 1 + 1 + 1 < w1.heap.size + 1 + 1 := (by omega)
  have HK1 := hidE hk
  clear hk
  go_wp2_with fail
  refine wp_region_ra [0, 1, 2, 3, 4, 5, 6, 7, 8, 9, 10, 11, 12] [13, 14] 1 (Same _) (by kernel_rfl) (by kernel_rfl) (fun u u' h k => Keeps.trans h k) (Keeps.refl _ _).drew ?_
  simp only [opsOf, List.filterMap_cons, List.filterMap_nil, List.getElem?_cons_zero, List.getElem?_cons_succ]
  repeat (refine seqV_run (v := ?_) rfl (fun u hu => ?_) ?_; rotate_left; (focus (obtain ⟨hc, hf, hr, hl, hn, hm⟩ := same_facts hu; clear hu; go_simp; first | done | with_reducible rfl)); (try simp only [Act.put, List.setIfInBounds_toArray, List.set_cons_zero, List.set_cons_succ]))
  refine seqV_call (f := 34) (args := #[.int .u8 48]) (v := .int .i64 4) rfl (fun u hu => ?_) (fun u hu => (csize_any 48 u).mono fun e w' h => ⟨h.1, by rw [h.2]; exact Keeps.refl _ _⟩) ?_
  · go_simp
  simp only [Act.put, List.setIfInBounds_toArray, List.set_cons_zero, List.set_cons_succ]
  repeat (refine seqV_run (v := ?_) rfl (fun u hu => ?_) ?_; rotate_left; (focus (obtain ⟨hc, hf, hr, hl, hn, hm⟩ := same_facts hu; clear hu; go_simp; first | done | with_reducible rfl)); (try simp only [Act.put, List.setIfInBounds_toArray, List.set_cons_zero, List.set_cons_succ]))
  refine seqV_nil ?_
  refine tailR_alloc (t := 29) (Z := acA ac0) w1.heap.size rfl (fun _ _ _ _ => trivial) (fun u o h => h.alloc o) (fun u h => h.size) (fun u hu => ?_) (fun b3 hb3 => ?_)
  · go_simp; rfl
  simp only [Act.put, List.setIfInBounds_toArray, List.set_cons_zero, List.set_cons_succ]
  refine tailR_zero fun u hu hp => ?_
  obtain ⟨-, hp⟩ := hp
  obtain ⟨hc3, hf3, hr3, hl3, -, -⟩ := fresh_of hp hb3
  obtain ⟨hc2, hf2, hr2, -, -, -⟩ := same_facts hu
  have lt_u_0 : w.heap.size < u.heap.size := (by have hh := (hu).size; (try simp at hh); omega); have lt_u_1 : w.heap.size + 1 < u.heap.size := (by have hh := (hu).size; (try simp at hh); omega); have lt_u_2 : w.heap.size + 1 + 1 < u.heap.size := (by have hh := (hu).size; (try simp at hh); omega); have lt_u_3 : w.heap.size + 1 + 1 + 1 < u.heap.size := (by have hh := (hu).size; (try simp at hh); omega); have lt1_u_0 : w.heap.size < u.heap.size + 1 := (by omega); have lt2_u_0 : w.heap.size < u.heap.size + 1 + 1 := (by omega); have lt1_u_1 : w.heap.size + 1 < u.heap.size + 1 := (by omega); have lt2_u_1 : w.heap.size + 1 < u.heap.size + 1 + 1 := (by omega); have lt1_u_2 : w.heap.size + 1 + 1 < u.heap.size + 1 := (by omega); have lt2_u_2 : w.heap.size + 1 + 1 < u.heap.size + 1 + 1 := (by omega); have lt1_u_3 : w.heap.size + 1 + 1 + 1 < u.heap.size + 1 := (by omega); have lt2_u_3 : w.heap.size + 1 + 1 + 1 < u.heap.size + 1 + 1 := (by omega)
  have ne_b3_0 : w.heap.size ≠ b3 := (by omega); have en_b3_0 : b3 ≠ w.heap.size := (by omega); have ne_b3_1 : w.heap.size + 1 ≠ b3 := (by omega); have en_b3_1 : b3 ≠ w.heap.size + 1 := (by omega); have ne_b3_2 : w.heap.size + 1 + 1 ≠ b3 := (by omega); have en_b3_2 : b3 ≠ w.heap.size + 1 + 1 := (by omega); have ne_b3_3 : w.heap.size + 1 + 1 + 1 ≠ b3 := (by omega); have en_b3_3 : b3 ≠ w.heap.size + 1 + 1 + 1 := (by omega)
  have HK2 := hidE hu
  clear hu hp
  simp only [acA, ac0] at hc3 hr3
  simp only [IntKind.wrap_u32']
  go_wp2
  refine post_row2 rfl Try.underlying29 rfl infoA Try.underlying31 rfl infoF rfl rfl rfl (by go_simp; rfl) (by go_simp; rfl) rfl rfl ⟨?_, ?_⟩
  · unfold wishL
    rw [if_pos (by first | exact HX.out | (show _ % 1 = 0; omega))]
    rfl
  · (repeat (first | with_reducible exact Keeps.refl _ _ | (with_reducible refine Keeps.drew ?_) | (with_reducible refine Keeps.alloc ?_ _) | (with_reducible refine Keeps.setRow ?_ (fun h => absurd h (by omega)) _) | (with_reducible refine Keeps.setCell ?_ (fun h => absurd h (by simp only []; omega)) _) | (with_reducible refine Keeps.trans ?_ HK8.out) | (with_reducible refine same_then ?_ HK8.out (fun k hk => by omega)) | (with_reducible refine Keeps.trans ?_ HK7.out) | (with_reducible refine same_then ?_ HK7.out (fun k hk => by omega)) | (with_reducible refine Keeps.trans ?_ HK6.out) | (with_reducible refine same_then ?_ HK6.out (fun k hk => by omega)) | (with_reducible refine Keeps.trans ?_ HK5.out) | (with_reducible refine same_then ?_ HK5.out (fun k hk => by omega)) | (with_reducible refine Keeps.trans ?_ HK4.out) | (with_reducible refine same_then ?_ HK4.out (fun k hk => by omega)) | (with_reducible refine Keeps.trans ?_ HK3.out) | (with_reducible refine same_then ?_ HK3.out (fun k hk => by omega)) | (with_reducible refine Keeps.trans ?_ HK2.out) | (with_reducible refine same_then ?_ HK2.out (fun k hk => by omega)) | (with_reducible refine Keeps.trans ?_ HK1.out) | (with_reducible refine same_then ?_ HK1.out (fun k hk => by omega))))
set_option maxHeartbeats 2000000 in
set_option maxRecDepth 100000 in
theorem want_48_no (s : St) (a b imm : Int) (hs : s.Ok) (b0 : 0 ≤ b) (b1 : b < 8) (a0 : 0 ≤ a) (a1 : a < 8) (hi : (⟨48, a, b, imm⟩ : In).Ok) (hm : mayB ⟨48, a, b, imm⟩ false = true) (he : ((s.R b.toNat + imm) % 4294967296) % 4 ≠ 0) (w : World) :
    Calls Try.prog 14 #[.agg (stA s), .agg #[.int .u8 48, .int .u8 a, .int .u8 b, .int .i32 imm]] w fun e w' => e = .returned (.tuple #[.agg (acA (wishL s ⟨48, a, b, imm⟩).1), .agg (flA (wishL s ⟨48, a, b, imm⟩).2)]) ∧ Same w w' := by
  have HM : Hid (∀ w, _) := hidE (fun w => may_any _ false hi w)
  rw [hm] at HM
  simp only [inA] at HM
  have h8 : b.toNat < 8 := by omega
  have h9 : a.toNat < 8 := by omega
  have q0 := hs.r0 7
  have q1 := hs.r1 7
  have p0 := hs.r0 a.toNat
  have p1 := hs.r1 a.toNat
  have hx : (((s.R b.toNat + imm) % 4294967296) % 4 != 0) = true := bne_iff_ne.mpr he
  have HX := hidE he
  clear he
  clear hm hi hs
  go_enter Try.func14, Try.ntmps14
  go_wp2_with fail
  refine (HM.out _).mono ?_
  rintro e w1 ⟨rfl, hk⟩
  obtain ⟨hc1, hf1, hr1, -, -, -⟩ := same_facts hk
  have lt_w1_0 : w.heap.size < w1.heap.size := (by have hh := (hk).size; (try simp at hh); omega); have lt_w1_1 : w.heap.size + 1 < w1.heap.size := (by have hh := (hk).size; (try simp at hh); omega); have lt_w1_2 : w.heap.size + 1 + 1 < w1.heap.size := (by have hh := (hk).size; (try simp at hh); omega); have lt_w1_3 : w.heap.size + 1 + 1 + 1 < w1.heap.size := (by have hh := (hk).size; (try simp at hh); omega); have lt1_w1_0 : w.heap.size < w1.heap.size + 1 := (by omega); have lt2_w1_0 : w.heap.size < w1.heap.size + 1 + 1 := (by omega); have lt1_w1_1 : w.heap.size + 1 < w1.heap.size + 1 := (by omega); have lt2_w1_1 : w.heap.size + 1 < w1.heap.size + 1 + 1 := (by omega); have lt1_w1_2 : w.heap.size + 1 + 1 < w1.heap.size + 1 := (by omega); have lt2_w1_2 : w.heap.size + 1 + 1 < w1.heap.size + 1 + 1 := (by omega); have lt1_w1_3 : w.heap.size + 1 + 1 + 1 < w1.heap.size + 1 := (by omega); have lt2_w1_3 : w.heap.size + 1 + 1 + 1 < w1.heap.size + 1 + 1 := (by omega)
  have HK1 := hidE hk
  clear hk
  go_wp2_with fail
  refine wp_region_ra [0, 1, 2, 3, 4, 5, 6, 7, 8, 9, 10, 11, 12] [13, 14] 1 (Same _) (by kernel_rfl) (by kernel_rfl) (fun u u' h k => Keeps.trans h k) (Keeps.refl _ _).drew ?_
  simp only [opsOf, List.filterMap_cons, List.filterMap_nil, List.getElem?_cons_zero, List.getElem?_cons_succ]
  repeat (refine seqV_run (v := ?_) rfl (fun u hu => ?_) ?_; rotate_left; (focus (obtain ⟨hc, hf, hr, hl, hn, hm⟩ := same_facts hu; clear hu; go_simp; first | done | with_reducible rfl)); (try simp only [Act.put, List.setIfInBounds_toArray, List.set_cons_zero, List.set_cons_succ]))
  refine seqV_call (f := 34) (args := #[.int .u8 48]) (v := .int .i64 4) rfl (fun u hu => ?_) (fun u hu => (csize_any 48 u).mono fun e w' h => ⟨h.1, by rw [h.2]; exact Keeps.refl _ _⟩) ?_
  · go_simp
  simp only [Act.put, List.setIfInBounds_toArray, List.set_cons_zero, List.set_cons_succ]
  repeat (refine seqV_run (v := ?_) rfl (fun u hu => ?_) ?_; rotate_left; (focus (obtain ⟨hc, hf, hr, hl, hn, hm⟩ := same_facts hu; clear hu; go_simp; first | done | with_reducible rfl)); (try simp only [Act.put, List.setIfInBounds_toArray, List.set_cons_zero, List.set_cons_succ]))
  refine seqV_nil ?_
  refine tailR_alloc (t := 29) (Z := acA ac0) w1.heap.size rfl (fun _ _ _ _ => trivial) (fun u o h => h.alloc o) (fun u h => h.size) (fun u hu => ?_) (fun b3 hb3 => ?_)
  · go_simp; rfl
  simp only [Act.put, List.setIfInBounds_toArray, List.set_cons_zero, List.set_cons_succ]
  refine tailR_zero fun u hu hp => ?_
  obtain ⟨-, hp⟩ := hp
  obtain ⟨hc3, hf3, hr3, hl3, -, -⟩ := fresh_of hp hb3
  obtain ⟨hc2, hf2, hr2, -, -, -⟩ := same_facts hu
  have lt_u_0 : w.heap.size < u.heap.size := (by have hh := (hu).size; (try simp at hh); omega); have lt_u_1 : w.heap.size + 1 < u.heap.size := (by have hh := (hu).size; (try simp at hh); omega); have lt_u_2 : w.heap.size + 1 + 1 < u.heap.size := (by have hh := (hu).size; (try simp at hh); omega); have lt_u_3 : w.heap.size + 1 + 1 + 1 < u.heap.size := (by have hh := (hu).size; (try simp at hh); omega); have lt1_u_0 : w.heap.size < u.heap.size + 1 := (by omega); have lt2_u_0 : w.heap.size < u.heap.size + 1 + 1 := (by omega); have lt1_u_1 : w.heap.size + 1 < u.heap.size + 1 := (by omega); have lt2_u_1 : w.heap.size + 1 < u.heap.size + 1 + 1 := (by omega); have lt1_u_2 : w.heap.size + 1 + 1 < u.heap.size + 1 := (by omega); have lt2_u_2 : w.heap.size + 1 + 1 < u.heap.size + 1 + 1 := (by omega); have lt1_u_3 : w.heap.size + 1 + 1 + 1 < u.heap.size + 1 := (by omega); have lt2_u_3 : w.heap.size + 1 + 1 + 1 < u.heap.size + 1 + 1 := (by omega)
  have ne_b3_0 : w.heap.size ≠ b3 := (by omega); have en_b3_0 : b3 ≠ w.heap.size := (by omega); have ne_b3_1 : w.heap.size + 1 ≠ b3 := (by omega); have en_b3_1 : b3 ≠ w.heap.size + 1 := (by omega); have ne_b3_2 : w.heap.size + 1 + 1 ≠ b3 := (by omega); have en_b3_2 : b3 ≠ w.heap.size + 1 + 1 := (by omega); have ne_b3_3 : w.heap.size + 1 + 1 + 1 ≠ b3 := (by omega); have en_b3_3 : b3 ≠ w.heap.size + 1 + 1 + 1 := (by omega)
  have HK2 := hidE hu
  clear hu hp
  simp only [acA, ac0] at hc3 hr3
  simp only [IntKind.wrap_u32']
  go_wp2
  refine wp_region_ra [0, 1, 2, 3] [4, 5] 1 (SR _ (w.heap.size + 1 + 1) 3) (by kernel_rfl) (by kernel_rfl) SR.same (SR.init (by go_simp; first | done | rfl)) ?_
  simp only [opsOf, List.filterMap_cons, List.filterMap_nil, List.getElem?_cons_zero, List.getElem?_cons_succ]
  repeat (refine seqV_run (v := ?_) rfl (fun u hu => ?_) ?_; rotate_left; (focus (obtain ⟨hc, hf, hr⟩ := SR.facts hu; clear hu; go_simp; first | done | with_reducible rfl)); (try simp only [Act.put, List.setIfInBounds_toArray, List.set_cons_zero, List.set_cons_succ]))
  refine seqV_nil ?_
  refine tailR_row (A := acA ac0) rfl rfl (fun u hu => ?_) ?_
  · have z := hu.z
    clear hu
    go_simp
    rfl
  simp only [Act.put]
  refine tailR_zero fun u4 hu hrow => ?_
  obtain ⟨hc5, hf5, hr5⟩ := SR.facts hu
  have lt_u4_0 : w.heap.size < u4.heap.size := (by have hh := (hu.k).size; (try simp at hh); omega); have lt_u4_1 : w.heap.size + 1 < u4.heap.size := (by have hh := (hu.k).size; (try simp at hh); omega); have lt_u4_2 : w.heap.size + 1 + 1 < u4.heap.size := (by have hh := (hu.k).size; (try simp at hh); omega); have lt_u4_3 : w.heap.size + 1 + 1 + 1 < u4.heap.size := (by have hh := (hu.k).size; (try simp at hh); omega); have lt1_u4_0 : w.heap.size < u4.heap.size + 1 := (by omega); have lt2_u4_0 : w.heap.size < u4.heap.size + 1 + 1 := (by omega); have lt1_u4_1 : w.heap.size + 1 < u4.heap.size + 1 := (by omega); have lt2_u4_1 : w.heap.size + 1 < u4.heap.size + 1 + 1 := (by omega); have lt1_u4_2 : w.heap.size + 1 + 1 < u4.heap.size + 1 := (by omega); have lt2_u4_2 : w.heap.size + 1 + 1 < u4.heap.size + 1 + 1 := (by omega); have lt1_u4_3 : w.heap.size + 1 + 1 + 1 < u4.heap.size + 1 := (by omega); have lt2_u4_3 : w.heap.size + 1 + 1 + 1 < u4.heap.size + 1 + 1 := (by omega)
  have HK4 := hidE hu.k
  clear hu
  go_wp2
  refine post_row2 rfl Try.underlying29 rfl infoA Try.underlying31 rfl infoF rfl rfl rfl (by go_simp; rfl) (by go_simp; rfl) rfl rfl ⟨?_, ?_⟩
  · unfold wishL
    rw [if_neg (by first | exact HX.out | (show _ % 1 = 0; omega))]
    rfl
  · (repeat (first | with_reducible exact Keeps.refl _ _ | (with_reducible refine Keeps.drew ?_) | (with_reducible refine Keeps.alloc ?_ _) | (with_reducible refine Keeps.setRow ?_ (fun h => absurd h (by omega)) _) | (with_reducible refine Keeps.setCell ?_ (fun h => absurd h (by simp only []; omega)) _) | (with_reducible refine Keeps.trans ?_ HK8.out) | (with_reducible refine same_then ?_ HK8.out (fun k hk => by omega)) | (with_reducible refine Keeps.trans ?_ HK7.out) | (with_reducible refine same_then ?_ HK7.out (fun k hk => by omega)) | (with_reducible refine Keeps.trans ?_ HK6.out) | (with_reducible refine same_then ?_ HK6.out (fun k hk => by omega)) | (with_reducible refine Keeps.trans ?_ HK5.out) | (with_reducible refine same_then ?_ HK5.out (fun k hk => by omega)) | (with_reducible refine Keeps.trans ?_ HK4.out) | (with_reducible refine same_then ?_ HK4.out (fun k hk => by omega)) | (with_reducible refine Keeps.trans ?_ HK3.out) | (with_reducible refine same_then ?_ HK3.out (fun k hk => by omega)) | (with_reducible refine Keeps.trans ?_ HK2.out) | (with_reducible refine same_then ?_ HK2.out (fun k hk => by omega)) | (with_reducible refine Keeps.trans ?_ HK1.out) | (with_reducible refine same_then ?_ HK1.out (fun k hk => by omega))))
set_option maxHeartbeats 2000000 in
set_option maxRecDepth 100000 in
theorem want_49 (s : St) (a b imm : Int) (hs : s.Ok) (b0 : 0 ≤ b) (b1 : b < 8) (a0 : 0 ≤ a) (a1 : a < 8) (hi : (⟨49, a, b, imm⟩ : In).Ok) (hm : mayB ⟨49, a, b, imm⟩ false = true) (he : ((s.R b.toNat + imm) % 4294967296) % 4 = 0) (w : World) :
    Calls Try.prog 14 #[.agg (stA s), .agg #[.int .u8 49, .int .u8 a, .int .u8 b, .int .i32 imm]] w fun e w' => e = .returned (.tuple #[.agg (acA (wishL s ⟨49, a, b, imm⟩).1), .agg (flA (wishL s ⟨49, a, b, imm⟩).2)]) ∧ Same w w' := by
  have HM : Hid (∀ w, _) := hidE (fun w => may_any _ false hi w)
  rw [hm] at HM
  simp only [inA] at HM
  have h8 : b.toNat < 8 := by omega
  have h9 : a.toNat < 8 := by omega
  have q0 := hs.r0 7
  have q1 := hs.r1 7
  have p0 := hs.r0 a.toNat
  have p1 := hs.r1 a.toNat
  have hx : (((s.R b.toNat + imm) % 4294967296) % 4 != 0) = false := by rw [he]; rfl
  have HX := hidE he
  clear he
  clear hm hi hs
  go_enter Try.func14, Try.ntmps14
  go_wp2_with fail
  refine (HM.out _).mono ?_
  rintro e w1 ⟨rfl, hk⟩
  obtain ⟨hc1, hf1, hr1, -, -, -⟩ := same_facts hk
  have lt_w1_0 : w.heap.size < w1.heap.size := (by have hh := (hk).size; (try simp at hh); omega); have lt_w1_1 : w.heap.size + 1 < w1.heap.size := (by have hh := (hk).size; (try simp at hh); omega); have lt_w1_2 : w.heap.size + 1 + 1 < w1.heap.size := (by have hh := (hk).size; (try simp at hh); omega); have lt_w1_3 : w.heap.size + 1 + 1 + 1 < w1.heap.size := (by have hh := (hk).size; (try simp at hh); omega); have lt1_w1_0 : w.heap.size < w1.heap.size + 1 := (by omega); have lt2_w1_0 : w.heap.size < w1.heap.size + 1 + 1 := (by omega); have lt1_w1_1 : w.heap.size + 1 < w1.heap.size + 1 := (by omega); have lt2_w1_1 : w.heap.size + 1 < w1.heap.size + 1 + 1 := (by omega); have lt1_w1_2 : w.heap.size + 1 + 1 < w1.heap.size + 1 := (by omega); have lt2_w1_2 : w.heap.size + 1 + 1 < w1.heap.size + 1 + 1 := (by omega); have lt1_w1_3 : w.heap.size + 1 + 1 + 1 < w1.heap.size + 1 := (by omega); have lt2_w1_3 : w.heap.size + 1 + 1 + 1 < w1.heap.size + 1 + 1 := (by omega)
  have HK1 := hidE hk
  clear hk
  go_wp2_with fail
  refine wp_region_ra [0, 1, 2, 3, 4, 5, 6, 7, 8, 9, 10, 11, 12] [13, 14] 1 (Same _) (by kernel_rfl) (by kernel_rfl) (fun u u' h k => Keeps.trans h k) (Keeps.refl _ _).drew ?_
  simp only [opsOf, List.filterMap_cons, List.filterMap_nil, List.getElem?_cons_zero, List.getElem?_cons_succ]
  repeat (refine seqV_run (v := ?_) rfl (fun u hu => ?_) ?_; rotate_left; (focus (obtain ⟨hc, hf, hr, hl, hn, hm⟩ := same_facts hu; clear hu; go_simp; first | done | with_reducible rfl)); (try simp only [Act.put, List.setIfInBounds_toArray, List.set_cons_zero, List.set_cons_succ]))
  refine seqV_call (f := 34) (args := #[.int .u8 49]) (v := .int .i64 4) rfl (fun u hu => ?_) (fun u hu => (csize_any 49 u).mono fun e w' h => ⟨h.1, by rw [h.2]; exact Keeps.refl _ _⟩) ?_
  · go_simp
  simp only [Act.put, List.setIfInBounds_toArray, List.set_cons_zero, List.set_cons_succ]
  repeat (refine seqV_run (v := ?_) rfl (fun u hu => ?_) ?_; rotate_left; (focus (obtain ⟨hc, hf, hr, hl, hn, hm⟩ := same_facts hu; clear hu; go_simp; first | done | with_reducible rfl)); (try simp only [Act.put, List.setIfInBounds_toArray, List.set_cons_zero, List.set_cons_succ]))
  refine seqV_nil ?_
  refine tailR_alloc (t := 29) (Z := acA ac0) w1.heap.size rfl (fun _ _ _ _ => trivial) (fun u o h => h.alloc o) (fun u h => h.size) (fun u hu => ?_) (fun b3 hb3 => ?_)
  · go_simp; rfl
  simp only [Act.put, List.setIfInBounds_toArray, List.set_cons_zero, List.set_cons_succ]
  refine tailR_zero fun u hu hp => ?_
  obtain ⟨-, hp⟩ := hp
  obtain ⟨hc3, hf3, hr3, hl3, -, -⟩ := fresh_of hp hb3
  obtain ⟨hc2, hf2, hr2, -, -, -⟩ := same_facts hu
  have lt_u_0 : w.heap.size < u.heap.size := (by have hh := (hu).size; (try simp at hh); omega); have lt_u_1 : w.heap.size + 1 < u.heap.size := (by have hh := (hu).size; (try simp at hh); omega); have lt_u_2 : w.heap.size + 1 + 1 < u.heap.size := (by have hh := (hu).size; (try simp at hh); omega); have lt_u_3 : w.heap.size + 1 + 1 + 1 < u.heap.size := (by have hh := (hu).size; (try simp at hh); omega); have lt1_u_0 : w.heap.size < u.heap.size + 1 := (by omega); have lt2_u_0 : w.heap.size < u.heap.size + 1 + 1 := (by omega); have lt1_u_1 : w.heap.size + 1 < u.heap.size + 1 := (by omega); have lt2_u_1 : w.heap.size + 1 < u.heap.size + 1 + 1 := (by omega); have lt1_u_2 : w.heap.size + 1 + 1 < u.heap.size + 1 := (by omega); have lt2_u_2 : w.heap.size + 1 + 1 < u.heap.size + 1 + 1 := (by omega); have lt1_u_3 : w.heap.size + 1 + 1 + 1 < u.heap.size + 1 := (by omega); have lt2_u_3 : w.heap.size + 1 + 1 + 1 < u.heap.size + 1 + 1 := (by omega)
  have ne_b3_0 : w.heap.size ≠ b3 := (by omega); have en_b3_0 : b3 ≠ w.heap.size := (by omega); have ne_b3_1 : w.heap.size + 1 ≠ b3 := (by omega); have en_b3_1 : b3 ≠ w.heap.size + 1 := (by omega); have ne_b3_2 : w.heap.size + 1 + 1 ≠ b3 := (by omega); have en_b3_2 : b3 ≠ w.heap.size + 1 + 1 := (by omega); have ne_b3_3 : w.heap.size + 1 + 1 + 1 ≠ b3 := (by omega); have en_b3_3 : b3 ≠ w.heap.size + 1 + 1 + 1 := (by omega)
  have HK2 := hidE hu
  clear hu hp
  simp only [acA, ac0] at hc3 hr3
  simp only [IntKind.wrap_u32']
  go_wp2
  refine wp_region_ra [0, 1, 2, 3, 4, 5, 6, 7, 8, 9, 10, 11] [12] 0 (Same _) (by kernel_rfl) (by kernel_rfl) (fun u u' h k => Keeps.trans h k) (Keeps.refl _ _).drew ?_
  simp only [opsOf, List.filterMap_cons, List.filterMap_nil, List.getElem?_cons_zero, List.getElem?_cons_succ]
  repeat (refine seqV_run (v := ?_) rfl (fun u hu => ?_) ?_; rotate_left; (focus (obtain ⟨hc, hf, hr, hl, hn, hm⟩ := same_facts hu; clear hu; go_simp; first | done | with_reducible rfl)); (try simp only [Act.put, List.setIfInBounds_toArray, List.set_cons_zero, List.set_cons_succ]))
  refine seqV_nil ?_
  refine tailR_zero fun u3 hu _ => ?_
  obtain ⟨hc4, hf4, hr4, -, -, -⟩ := same_facts hu
  have HK3 := hidE hu
  have r3b := (hr4 b3 (by simp; omega)).trans (show rowAt _ b3 = _ by go_simp; rfl)
  have lt_u3_0 : w.heap.size < u3.heap.size := (by have hh := (hu).size; (try simp at hh); omega); have lt_u3_1 : w.heap.size + 1 < u3.heap.size := (by have hh := (hu).size; (try simp at hh); omega); have lt_u3_2 : w.heap.size + 1 + 1 < u3.heap.size := (by have hh := (hu).size; (try simp at hh); omega); have lt_u3_3 : w.heap.size + 1 + 1 + 1 < u3.heap.size := (by have hh := (hu).size; (try simp at hh); omega); have lt1_u3_0 : w.heap.size < u3.heap.size + 1 := (by omega); have lt2_u3_0 : w.heap.size < u3.heap.size + 1 + 1 := (by omega); have lt1_u3_1 : w.heap.size + 1 < u3.heap.size + 1 := (by omega); have lt2_u3_1 : w.heap.size + 1 < u3.heap.size + 1 + 1 := (by omega); have lt1_u3_2 : w.heap.size + 1 + 1 < u3.heap.size + 1 := (by omega); have lt2_u3_2 : w.heap.size + 1 + 1 < u3.heap.size + 1 + 1 := (by omega); have lt1_u3_3 : w.heap.size + 1 + 1 + 1 < u3.heap.size + 1 := (by omega); have lt2_u3_3 : w.heap.size + 1 + 1 + 1 < u3.heap.size + 1 + 1 := (by omega)
  have lt_u3_b : b3 < u3.heap.size := (by have hh := hu.size; simp at hh; omega)
  clear hu
  go_wp2
  refine post_row2 rfl Try.underlying29 rfl infoA Try.underlying31 rfl infoF rfl rfl rfl (by go_simp; rfl) (by go_simp; rfl) rfl rfl ⟨?_, ?_⟩
  · unfold wishL
    rw [if_pos (by first | exact HX.out | (show _ % 1 = 0; omega))]
    rw [low_4 _ p0 p1]; rfl
  · (repeat (first | with_reducible exact Keeps.refl _ _ | (with_reducible refine Keeps.drew ?_) | (with_reducible refine Keeps.alloc ?_ _) | (with_reducible refine Keeps.setRow ?_ (fun h => absurd h (by omega)) _) | (with_reducible refine Keeps.setCell ?_ (fun h => absurd h (by simp only []; omega)) _) | (with_reducible refine Keeps.trans ?_ HK8.out) | (with_reducible refine same_then ?_ HK8.out (fun k hk => by omega)) | (with_reducible refine Keeps.trans ?_ HK7.out) | (with_reducible refine same_then ?_ HK7.out (fun k hk => by omega)) | (with_reducible refine Keeps.trans ?_ HK6.out) | (with_reducible refine same_then ?_ HK6.out (fun k hk => by omega)) | (with_reducible refine Keeps.trans ?_ HK5.out) | (with_reducible refine same_then ?_ HK5.out (fun k hk => by omega)) | (with_reducible refine Keeps.trans ?_ HK4.out) | (with_reducible refine same_then ?_ HK4.out (fun k hk => by omega)) | (with_reducible refine Keeps.trans ?_ HK3.out) | (with_reducible refine same_then ?_ HK3.out (fun k hk => by omega)) | (with_reducible refine Keeps.trans ?_ HK2.out) | (with_reducible refine same_then ?_ HK2.out (fun k hk => by omega)) | (with_reducible refine Keeps.trans ?_ HK1.out) | (with_reducible refine same_then ?_ HK1.out (fun k hk => by omega))))
set_option maxHeartbeats 2000000 in
set_option maxRecDepth 100000 in
theorem want_49_no (s : St) (a b imm : Int) (hs : s.Ok) (b0 : 0 ≤ b) (b1 : b < 8) (a0 : 0 ≤ a) (a1 : a < 8) (hi : (⟨49, a, b, imm⟩ : In).Ok) (hm : mayB ⟨49, a, b, imm⟩ false = true) (he : ((s.R b.toNat + imm) % 4294967296) % 4 ≠ 0) (w : World) :
    Calls Try.prog 14 #[.agg (stA s), .agg #[.int .u8 49, .int .u8 a, .int .u8 b, .int .i32 imm]] w fun e w' => e = .returned (.tuple #[.agg (acA (wishL s ⟨49, a, b, imm⟩).1), .agg (flA (wishL s ⟨49, a, b, imm⟩).2)]) ∧ Same w w' := by
  have HM : Hid (∀ w, _) := hidE (fun w => may_any _ false hi w)
  rw [hm] at HM
  simp only [inA] at HM
  have h8 : b.toNat < 8 := by omega
  have h9 : a.toNat < 8 := by omega
  have q0 := hs.r0 7
  have q1 := hs.r1 7
  have p0 := hs.r0 a.toNat
  have p1 := hs.r1 a.toNat
  have hx : (((s.R b.toNat + imm) % 4294967296) % 4 != 0) = true := bne_iff_ne.mpr he
  have HX := hidE he
  clear he
  clear hm hi hs
  go_enter Try.func14, Try.ntmps14
  go_wp2_with fail
  refine (HM.out _).mono ?_
  rintro e w1 ⟨rfl, hk⟩
  obtain ⟨hc1, hf1, hr1, -, -, -⟩ := same_facts hk
  have lt_w1_0 : w.heap.size < w1.heap.size := (by have hh := (hk).size; (try simp at hh); omega); have lt_w1_1 : w.heap.size + 1 < w1.heap.size := (by have hh := (hk).size; (try simp at hh); omega); have lt_w1_2 : w.heap.size + 1 + 1 < w1.heap.size := (by have hh := (hk).size; (try simp at hh); omega); have lt_w1_3 : w.heap.size + 1 + 1 + 1 < w1.heap.size := (by have hh := (hk).size; (try simp at hh); omega); have lt1_w1_0 : w.heap.size < w1.heap.size + 1 := (by omega); have lt2_w1_0 : w.heap.size < w1.heap.size + 1 + 1 := (by omega); have lt1_w1_1 : w.heap.size + 1 < w1.heap.size + 1 := (by omega); have lt2_w1_1 : w.heap.size + 1 < w1.heap.size + 1 + 1 := (by omega); have lt1_w1_2 : w.heap.size + 1 + 1 < w1.heap.size + 1 := (by omega); have lt2_w1_2 : w.heap.size + 1 + 1 < w1.heap.size + 1 + 1 := (by omega); have lt1_w1_3 : w.heap.size + 1 + 1 + 1 < w1.heap.size + 1 := (by omega); have lt2_w1_3 : w.heap.size + 1 + 1 + 1 < w1.heap.size + 1 + 1 := (by omega)
  have HK1 := hidE hk
  clear hk
  go_wp2_with fail
  refine wp_region_ra [0, 1, 2, 3, 4, 5, 6, 7, 8, 9, 10, 11, 12] [13, 14] 1 (Same _) (by kernel_rfl) (by kernel_rfl) (fun u u' h k => Keeps.trans h k) (Keeps.refl _ _).drew ?_
  simp only [opsOf, List.filterMap_cons, List.filterMap_nil, List.getElem?_cons_zero, List.getElem?_cons_succ]
  repeat (refine seqV_run (v := ?_) rfl (fun u hu => ?_) ?_; rotate_left; (focus (obtain ⟨hc, hf, hr, hl, hn, hm⟩ := same_facts hu; clear hu; go_simp; first | done | with_reducible rfl)); (try simp only [Act.put, List.setIfInBounds_toArray, List.set_cons_zero, List.set_cons_succ]))
  refine seqV_call (f := 34) (args := #[.int .u8 49]) (v := .int .i64 4) rfl (fun u hu => ?_) (fun u hu => (csize_any 49 u).mono fun e w' h => ⟨h.1, by rw [h.2]; exact Keeps.refl _ _⟩) ?_
  · go_simp
  simp only [Act.put, List.setIfInBounds_toArray, List.set_cons_zero, List.set_cons_succ]
  repeat (refine seqV_run (v := ?_) rfl (fun u hu => ?_) ?_; rotate_left; (focus (obtain ⟨hc, hf, hr, hl, hn, hm⟩ := same_facts hu; clear hu; go_simp; first | done | with_reducible rfl)); (try simp only [Act.put, List.setIfInBounds_toArray, List.set_cons_zero, List.set_cons_succ]))
  refine seqV_nil ?_
  refine tailR_alloc (t := 29) (Z := acA ac0) w1.heap.size rfl (fun _ _ _ _ => trivial) (fun u o h => h.alloc o) (fun u h => h.size) (fun u hu => ?_) (fun b3 hb3 => ?_)
  · go_simp; rfl
  simp only [Act.put, List.setIfInBounds_toArray, List.set_cons_zero, List.set_cons_succ]
  refine tailR_zero fun u hu hp => ?_
  obtain ⟨-, hp⟩ := hp
  obtain ⟨hc3, hf3, hr3, hl3, -, -⟩ := fresh_of hp hb3
  obtain ⟨hc2, hf2, hr2, -, -, -⟩ := same_facts hu
  have lt_u_0 : w.heap.size < u.heap.size := (by have hh := (hu).size; (try simp at hh); omega); have lt_u_1 : w.heap.size + 1 < u.heap.size := (by have hh := (hu).size; (try simp at hh); omega); have lt_u_2 : w.heap.size + 1 + 1 < u.heap.size := (by have hh := (hu).size; (try simp at hh); omega); have lt_u_3 : w.heap.size + 1 + 1 + 1 < u.heap.size := (by have hh := (hu).size; (try simp at hh); omega); have lt1_u_0 : w.heap.size < u.heap.size + 1 := (by omega); have lt2_u_0 : w.heap.size < u.heap.size + 1 + 1 := (by omega); have lt1_u_1 : w.heap.size + 1 < u.heap.size + 1 := (by omega); have lt2_u_1 : w.heap.size + 1 < u.heap.size + 1 + 1 := (by omega); have lt1_u_2 : w.heap.size + 1 + 1 < u.heap.size + 1 := (by omega); have lt2_u_2 : w.heap.size + 1 + 1 < u.heap.size + 1 + 1 := (by omega); have lt1_u_3 : w.heap.size + 1 + 1 + 1 < u.heap.size + 1 := (by omega); have lt2_u_3 : w.heap.size + 1 + 1 + 1 < u.heap.size + 1 + 1 := (by omega)
  have ne_b3_0 : w.heap.size ≠ b3 := (by omega); have en_b3_0 : b3 ≠ w.heap.size := (by omega); have ne_b3_1 : w.heap.size + 1 ≠ b3 := (by omega); have en_b3_1 : b3 ≠ w.heap.size + 1 := (by omega); have ne_b3_2 : w.heap.size + 1 + 1 ≠ b3 := (by omega); have en_b3_2 : b3 ≠ w.heap.size + 1 + 1 := (by omega); have ne_b3_3 : w.heap.size + 1 + 1 + 1 ≠ b3 := (by omega); have en_b3_3 : b3 ≠ w.heap.size + 1 + 1 + 1 := (by omega)
  have HK2 := hidE hu
  clear hu hp
  simp only [acA, ac0] at hc3 hr3
  simp only [IntKind.wrap_u32']
  go_wp2
  refine wp_region_ra [0, 1, 2, 3, 4, 5, 6, 7, 8, 9, 10, 11] [12] 0 (Same _) (by kernel_rfl) (by kernel_rfl) (fun u u' h k => Keeps.trans h k) (Keeps.refl _ _).drew ?_
  simp only [opsOf, List.filterMap_cons, List.filterMap_nil, List.getElem?_cons_zero, List.getElem?_cons_succ]
  repeat (refine seqV_run (v := ?_) rfl (fun u hu => ?_) ?_; rotate_left; (focus (obtain ⟨hc, hf, hr, hl, hn, hm⟩ := same_facts hu; clear hu; go_simp; first | done | with_reducible rfl)); (try simp only [Act.put, List.setIfInBounds_toArray, List.set_cons_zero, List.set_cons_succ]))
  refine seqV_nil ?_
  refine tailR_zero fun u3 hu _ => ?_
  obtain ⟨hc4, hf4, hr4, -, -, -⟩ := same_facts hu
  have HK3 := hidE hu
  have r3b := (hr4 b3 (by simp; omega)).trans (show rowAt _ b3 = _ by go_simp; rfl)
  have lt_u3_0 : w.heap.size < u3.heap.size := (by have hh := (hu).size; (try simp at hh); omega); have lt_u3_1 : w.heap.size + 1 < u3.heap.size := (by have hh := (hu).size; (try simp at hh); omega); have lt_u3_2 : w.heap.size + 1 + 1 < u3.heap.size := (by have hh := (hu).size; (try simp at hh); omega); have lt_u3_3 : w.heap.size + 1 + 1 + 1 < u3.heap.size := (by have hh := (hu).size; (try simp at hh); omega); have lt1_u3_0 : w.heap.size < u3.heap.size + 1 := (by omega); have lt2_u3_0 : w.heap.size < u3.heap.size + 1 + 1 := (by omega); have lt1_u3_1 : w.heap.size + 1 < u3.heap.size + 1 := (by omega); have lt2_u3_1 : w.heap.size + 1 < u3.heap.size + 1 + 1 := (by omega); have lt1_u3_2 : w.heap.size + 1 + 1 < u3.heap.size + 1 := (by omega); have lt2_u3_2 : w.heap.size + 1 + 1 < u3.heap.size + 1 + 1 := (by omega); have lt1_u3_3 : w.heap.size + 1 + 1 + 1 < u3.heap.size + 1 := (by omega); have lt2_u3_3 : w.heap.size + 1 + 1 + 1 < u3.heap.size + 1 + 1 := (by omega)
  have lt_u3_b : b3 < u3.heap.size := (by have hh := hu.size; simp at hh; omega)
  clear hu
  go_wp2
  refine wp_region_ra [0, 1, 2, 3] [4, 5] 1 (SR _ (w.heap.size + 1 + 1) 3) (by kernel_rfl) (by kernel_rfl) SR.same (SR.init (by go_simp; first | done | rfl)) ?_
  simp only [opsOf, List.filterMap_cons, List.filterMap_nil, List.getElem?_cons_zero, List.getElem?_cons_succ]
  repeat (refine seqV_run (v := ?_) rfl (fun u hu => ?_) ?_; rotate_left; (focus (obtain ⟨hc, hf, hr⟩ := SR.facts hu; clear hu; go_simp; first | done | with_reducible rfl)); (try simp only [Act.put, List.setIfInBounds_toArray, List.set_cons_zero, List.set_cons_succ]))
  refine seqV_nil ?_
  refine tailR_row (A := acA ac0) rfl rfl (fun u hu => ?_) ?_
  · have z := hu.z
    clear hu
    go_simp
    rfl
  simp only [Act.put]
  refine tailR_zero fun u4 hu hrow => ?_
  obtain ⟨hc5, hf5, hr5⟩ := SR.facts hu
  have lt_u4_0 : w.heap.size < u4.heap.size := (by have hh := (hu.k).size; (try simp at hh); omega); have lt_u4_1 : w.heap.size + 1 < u4.heap.size := (by have hh := (hu.k).size; (try simp at hh); omega); have lt_u4_2 : w.heap.size + 1 + 1 < u4.heap.size := (by have hh := (hu.k).size; (try simp at hh); omega); have lt_u4_3 : w.heap.size + 1 + 1 + 1 < u4.heap.size := (by have hh := (hu.k).size; (try simp at hh); omega); have lt1_u4_0 : w.heap.size < u4.heap.size + 1 := (by omega); have lt2_u4_0 : w.heap.size < u4.heap.size + 1 + 1 := (by omega); have lt1_u4_1 : w.heap.size + 1 < u4.heap.size + 1 := (by omega); have lt2_u4_1 : w.heap.size + 1 < u4.heap.size + 1 + 1 := (by omega); have lt1_u4_2 : w.heap.size + 1 + 1 < u4.heap.size + 1 := (by omega); have lt2_u4_2 : w.heap.size + 1 + 1 < u4.heap.size + 1 + 1 := (by omega); have lt1_u4_3 : w.heap.size + 1 + 1 + 1 < u4.heap.size + 1 := (by omega); have lt2_u4_3 : w.heap.size + 1 + 1 + 1 < u4.heap.size + 1 + 1 := (by omega)
  have HK4 := hidE hu.k
  clear hu
  go_wp2
  refine post_row2 rfl Try.underlying29 rfl infoA Try.underlying31 rfl infoF rfl rfl rfl (by go_simp; rfl) (by go_simp; rfl) rfl rfl ⟨?_, ?_⟩
  · unfold wishL
    rw [if_neg (by first | exact HX.out | (show _ % 1 = 0; omega))]
    rfl
  · (repeat (first | with_reducible exact Keeps.refl _ _ | (with_reducible refine Keeps.drew ?_) | (with_reducible refine Keeps.alloc ?_ _) | (with_reducible refine Keeps.setRow ?_ (fun h => absurd h (by omega)) _) | (with_reducible refine Keeps.setCell ?_ (fun h => absurd h (by simp only []; omega)) _) | (with_reducible refine Keeps.trans ?_ HK8.out) | (with_reducible refine same_then ?_ HK8.out (fun k hk => by omega)) | (with_reducible refine Keeps.trans ?_ HK7.out) | (with_reducible refine same_then ?_ HK7.out (fun k hk => by omega)) | (with_reducible refine Keeps.trans ?_ HK6.out) | (with_reducible refine same_then ?_ HK6.out (fun k hk => by omega)) | (with_reducible refine Keeps.trans ?_ HK5.out) | (with_reducible refine same_then ?_ HK5.out (fun k hk => by omega)) | (with_reducible refine Keeps.trans ?_ HK4.out) | (with_reducible refine same_then ?_ HK4.out (fun k hk => by omega)) | (with_reducible refine Keeps.trans ?_ HK3.out) | (with_reducible refine same_then ?_ HK3.out (fun k hk => by omega)) | (with_reducible refine Keeps.trans ?_ HK2.out) | (with_reducible refine same_then ?_ HK2.out (fun k hk => by omega)) | (with_reducible refine Keeps.trans ?_ HK1.out) | (with_reducible refine same_then ?_ HK1.out (fun k hk => by omega))))
set_option maxHeartbeats 2000000 in
set_option maxRecDepth 100000 in
theorem want_50 (s : St) (a b imm : Int) (hs : s.Ok) (b0 : 0 ≤ b) (b1 : b < 8) (a0 : 0 ≤ a) (a1 : a < 8) (hi : (⟨50, a, b, imm⟩ : In).Ok) (hm : mayB ⟨50, a, b, imm⟩ false = true) (w : World) :
    Calls Try.prog 14 #[.agg (stA s), .agg #[.int .u8 50, .int .u8 a, .int .u8 b, .int .i32 imm]] w fun e w' => e = .returned (.tuple #[.agg (acA (wishL s ⟨50, a, b, imm⟩).1), .agg (flA (wishL s ⟨50, a, b, imm⟩).2)]) ∧ Same w w' := by
  have HM : Hid (∀ w, _) := hidE (fun w => may_any _ false hi w)
  rw [hm] at HM
  simp only [inA] at HM
  have h8 : b.toNat < 8 := by omega
  have h9 : a.toNat < 8 := by omega
  have q0 := hs.r0 7
  have q1 := hs.r1 7
  have p0 := hs.r0 a.toNat
  have p1 := hs.r1 a.toNat
  clear hm hi hs
  go_enter Try.func14, Try.ntmps14
  go_wp2_with fail
  refine (HM.out _).mono ?_
  rintro e w1 ⟨rfl, hk⟩
  obtain ⟨hc1, hf1, hr1, -, -, -⟩ := same_facts hk
  have lt_w1_0 : w.heap.size < w1.heap.size := (by have hh := (hk).size; (try simp at hh); omega); have lt_w1_1 : w.heap.size + 1 < w1.heap.size := (by have hh := (hk).size; (try simp at hh); omega); have lt_w1_2 : w.heap.size + 1 + 1 < w1.heap.size := (by have hh := (hk).size; (try simp at hh); omega); have lt_w1_3 : w.heap.size + 1 + 1 + 1 < w1.heap.size := (by have hh := (hk).size; (try simp at hh); omega); have lt1_w1_0 : w.heap.size < w1.heap.size + 1 := (by omega); have lt2_w1_0 : w.heap.size < w1.heap.size + 1 + 1 := (by omega); have lt1_w1_1 : w.heap.size + 1 < w1.heap.size + 1 := (by omega); have lt2_w1_1 : w.heap.size + 1 < w1.heap.size + 1 + 1 := (by omega); have lt1_w1_2 : w.heap.size + 1 + 1 < w1.heap.size + 1 := (by omega); have lt2_w1_2 : w.heap.size + 1 + 1 < w1.heap.size + 1 + 1 := (by omega); have lt1_w1_3 : w.heap.size + 1 + 1 + 1 < w1.heap.size + 1 := (by omega); have lt2_w1_3 : w.heap.size + 1 + 1 + 1 < w1.heap.size + 1 + 1 := (by omega)
  have HK1 := hidE hk
  clear hk
  go_wp2_with fail
  refine wp_region_ra [0, 1, 2, 3, 4, 5, 6, 7, 8, 9, 10, 11, 12] [13, 14] 1 (Same _) (by kernel_rfl) (by kernel_rfl) (fun u u' h k => Keeps.trans h k) (Keeps.refl _ _).drew ?_
  simp only [opsOf, List.filterMap_cons, List.filterMap_nil, List.getElem?_cons_zero, List.getElem?_cons_succ]
  repeat (refine seqV_run (v := ?_) rfl (fun u hu => ?_) ?_; rotate_left; (focus (obtain ⟨hc, hf, hr, hl, hn, hm⟩ := same_facts hu; clear hu; go_simp; first | done | with_reducible rfl)); (try simp only [Act.put, List.setIfInBounds_toArray, List.set_cons_zero, List.set_cons_succ]))
  refine seqV_call (f := 34) (args := #[.int .u8 50]) (v := .int .i64 1) rfl (fun u hu => ?_) (fun u hu => (csize_any 50 u).mono fun e w' h => ⟨h.1, by rw [h.2]; exact Keeps.refl _ _⟩) ?_
  · go_simp
  simp only [Act.put, List.setIfInBounds_toArray, List.set_cons_zero, List.set_cons_succ]
  repeat (refine seqV_run (v := ?_) rfl (fun u hu => ?_) ?_; rotate_left; (focus (obtain ⟨hc, hf, hr, hl, hn, hm⟩ := same_facts hu; clear hu; go_simp; first | done | with_reducible rfl)); (try simp only [Act.put, List.setIfInBounds_toArray, List.set_cons_zero, List.set_cons_succ]))
  refine seqV_nil ?_
  refine tailR_alloc (t := 29) (Z := acA ac0) w1.heap.size rfl (fun _ _ _ _ => trivial) (fun u o h => h.alloc o) (fun u h => h.size) (fun u hu => ?_) (fun b3 hb3 => ?_)
  · go_simp; rfl
  simp only [Act.put, List.setIfInBounds_toArray, List.set_cons_zero, List.set_cons_succ]
  refine tailR_zero fun u hu hp => ?_
  obtain ⟨-, hp⟩ := hp
  obtain ⟨hc3, hf3, hr3, hl3, -, -⟩ := fresh_of hp hb3
  obtain ⟨hc2, hf2, hr2, -, -, -⟩ := same_facts hu
  have lt_u_0 : w.heap.size < u.heap.size := (by have hh := (hu).size; (try simp at hh); omega); have lt_u_1 : w.heap.size + 1 < u.heap.size := (by have hh := (hu).size; (try simp at hh); omega); have lt_u_2 : w.heap.size + 1 + 1 < u.heap.size := (by have hh := (hu).size; (try simp at hh); omega); have lt_u_3 : w.heap.size + 1 + 1 + 1 < u.heap.size := (by have hh := (hu).size; (try simp at hh); omega); have lt1_u_0 : w.heap.size < u.heap.size + 1 := (by omega); have lt2_u_0 : w.heap.size < u.heap.size + 1 + 1 := (by omega); have lt1_u_1 : w.heap.size + 1 < u.heap.size + 1 := (by omega); have lt2_u_1 : w.heap.size + 1 < u.heap.size + 1 + 1 := (by omega); have lt1_u_2 : w.heap.size + 1 + 1 < u.heap.size + 1 := (by omega); have lt2_u_2 : w.heap.size + 1 + 1 < u.heap.size + 1 + 1 := (by omega); have lt1_u_3 : w.heap.size + 1 + 1 + 1 < u.heap.size + 1 := (by omega); have lt2_u_3 : w.heap.size + 1 + 1 + 1 < u.heap.size + 1 + 1 := (by omega)
  have ne_b3_0 : w.heap.size ≠ b3 := (by omega); have en_b3_0 : b3 ≠ w.heap.size := (by omega); have ne_b3_1 : w.heap.size + 1 ≠ b3 := (by omega); have en_b3_1 : b3 ≠ w.heap.size + 1 := (by omega); have ne_b3_2 : w.heap.size + 1 + 1 ≠ b3 := (by omega); have en_b3_2 : b3 ≠ w.heap.size + 1 + 1 := (by omega); have ne_b3_3 : w.heap.size + 1 + 1 + 1 ≠ b3 := (by omega); have en_b3_3 : b3 ≠ w.heap.size + 1 + 1 + 1 := (by omega)
  have HK2 := hidE hu
  clear hu hp
  simp only [acA, ac0] at hc3 hr3
  simp only [IntKind.wrap_u32']
  go_wp2
  refine post_row2 rfl Try.underlying29 rfl infoA Try.underlying31 rfl infoF rfl rfl rfl (by go_simp; rfl) (by go_simp; rfl) rfl rfl ⟨?_, ?_⟩
  · unfold wishL
    rw [if_pos (by first | exact HX.out | (show _ % 1 = 0; omega))]
    rfl
  · (repeat (first | with_reducible exact Keeps.refl _ _ | (with_reducible refine Keeps.drew ?_) | (with_reducible refine Keeps.alloc ?_ _) | (with_reducible refine Keeps.setRow ?_ (fun h => absurd h (by omega)) _) | (with_reducible refine Keeps.setCell ?_ (fun h => absurd h (by simp only []; omega)) _) | (with_reducible refine Keeps.trans ?_ HK8.out) | (with_reducible refine same_then ?_ HK8.out (fun k hk => by omega)) | (with_reducible refine Keeps.trans ?_ HK7.out) | (with_reducible refine same_then ?_ HK7.out (fun k hk => by omega)) | (with_reducible refine Keeps.trans ?_ HK6.out) | (with_reducible refine same_then ?_ HK6.out (fun k hk => by omega)) | (with_reducible refine Keeps.trans ?_ HK5.out) | (with_reducible refine same_then ?_ HK5.out (fun k hk => by omega)) | (with_reducible refine Keeps.trans ?_ HK4.out) | (with_reducible refine same_then ?_ HK4.out (fun k hk => by omega)) | (with_reducible refine Keeps.trans ?_ HK3.out) | (with_reducible refine same_then ?_ HK3.out (fun k hk => by omega)) | (with_reducible refine Keeps.trans ?_ HK2.out) | (with_reducible refine same_then ?_ HK2.out (fun k hk => by omega)) | (with_reducible refine Keeps.trans ?_ HK1.out) | (with_reducible refine same_then ?_ HK1.out (fun k hk => by omega))))
set_option maxHeartbeats 2000000 in
set_option maxRecDepth 100000 in
theorem want_51 (s : St) (a b imm : Int) (hs : s.Ok) (b0 : 0 ≤ b) (b1 : b < 8) (a0 : 0 ≤ a) (a1 : a < 8) (hi : (⟨51, a, b, imm⟩ : In).Ok) (hm : mayB ⟨51, a, b, imm⟩ false = true) (w : World) :
    Calls Try.prog 14 #[.agg (stA s), .agg #[.int .u8 51, .int .u8 a, .int .u8 b, .int .i32 imm]] w fun e w' => e = .returned (.tuple #[.agg (acA (wishL s ⟨51, a, b, imm⟩).1), .agg (flA (wishL s ⟨51, a, b, imm⟩).2)]) ∧ Same w w' := by
  have HM : Hid (∀ w, _) := hidE (fun w => may_any _ false hi w)
  rw [hm] at HM
  simp only [inA] at HM
  have h8 : b.toNat < 8 := by omega
  have h9 : a.toNat < 8 := by omega
  have q0 := hs.r0 7
  have q1 := hs.r1 7
  have p0 := hs.r0 a.toNat
  have p1 := hs.r1 a.toNat
  clear hm hi hs
  go_enter Try.func14, Try.ntmps14
  go_wp2_with fail
  refine (HM.out _).mono ?_
  rintro e w1 ⟨rfl, hk⟩
  obtain ⟨hc1, hf1, hr1, -, -, -⟩ := same_facts hk
  have lt_w1_0 : w.heap.size < w1.heap.size := (by have hh := (hk).size; (try simp at hh); omega); have lt_w1_1 : w.heap.size + 1 < w1.heap.size := (by have hh := (hk).size; (try simp at hh); omega); have lt_w1_2 : w.heap.size + 1 + 1 < w1.heap.size := (by have hh := (hk).size; (try simp at hh); omega); have lt_w1_3 : w.heap.size + 1 + 1 + 1 < w1.heap.size := (by have hh := (hk).size; (try simp at hh); omega); have lt1_w1_0 : w.heap.size < w1.heap.size + 1 := (by omega); have lt2_w1_0 : w.heap.size < w1.heap.size + 1 + 1 := (by omega); have lt1_w1_1 : w.heap.size + 1 < w1.heap.size + 1 := (by omega); have lt2_w1_1 : w.heap.size + 1 < w1.heap.size + 1 + 1 := (by omega); have lt1_w1_2 : w.heap.size + 1 + 1 < w1.heap.size + 1 := (by omega); have lt2_w1_2 : w.heap.size + 1 + 1 < w1.heap.size + 1 + 1 := (by omega); have lt1_w1_3 : w.heap.size + 1 + 1 + 1 < w1.heap.size + 1 := (by omega); have lt2_w1_3 : w.heap.size + 1 + 1 + 1 < w1.heap.size + 1 + 1 := (by omega)
  have HK1 := hidE hk
  clear hk
  go_wp2_with fail
  refine wp_region_ra [0, 1, 2, 3, 4, 5, 6, 7, 8, 9, 10, 11, 12] [13, 14] 1 (Same _) (by kernel_rfl) (by kernel_rfl) (fun u u' h k => Keeps.trans h k) (Keeps.refl _ _).drew ?_
  simp only [opsOf, List.filterMap_cons, List.filterMap_nil, List.getElem?_cons_zero, List.getElem?_cons_succ]
  repeat (refine seqV_run (v := ?_) rfl (fun u hu => ?_) ?_; rotate_left; (focus (obtain ⟨hc, hf, hr, hl, hn, hm⟩ := same_facts hu; clear hu; go_simp; first | done | with_reducible rfl)); (try simp only [Act.put, List.setIfInBounds_toArray, List.set_cons_zero, List.set_cons_succ]))
  refine seqV_call (f := 34) (args := #[.int .u8 51]) (v := .int .i64 1) rfl (fun u hu => ?_) (fun u hu => (csize_any 51 u).mono fun e w' h => ⟨h.1, by rw [h.2]; exact Keeps.refl _ _⟩) ?_
  · go_simp
  simp only [Act.put, List.setIfInBounds_toArray, List.set_cons_zero, List.set_cons_succ]
  repeat (refine seqV_run (v := ?_) rfl (fun u hu => ?_) ?_; rotate_left; (focus (obtain ⟨hc, hf, hr, hl, hn, hm⟩ := same_facts hu; clear hu; go_simp; first | done | with_reducible rfl)); (try simp only [Act.put, List.setIfInBounds_toArray, List.set_cons_zero, List.set_cons_succ]))
  refine seqV_nil ?_
  refine tailR_alloc (t := 29) (Z := acA ac0) w1.heap.size rfl (fun _ _ _ _ => trivial) (fun u o h => h.alloc o) (fun u h => h.size) (fun u hu => ?_) (fun b3 hb3 => ?_)
  · go_simp; rfl
  simp only [Act.put, List.setIfInBounds_toArray, List.set_cons_zero, List.set_cons_succ]
  refine tailR_zero fun u hu hp => ?_
  obtain ⟨-, hp⟩ := hp
  obtain ⟨hc3, hf3, hr3, hl3, -, -⟩ := fresh_of hp hb3
  obtain ⟨hc2, hf2, hr2, -, -, -⟩ := same_facts hu
  have lt_u_0 : w.heap.size < u.heap.size := (by have hh := (hu).size; (try simp at hh); omega); have lt_u_1 : w.heap.size + 1 < u.heap.size := (by have hh := (hu).size; (try simp at hh); omega); have lt_u_2 : w.heap.size + 1 + 1 < u.heap.size := (by have hh := (hu).size; (try simp at hh); omega); have lt_u_3 : w.heap.size + 1 + 1 + 1 < u.heap.size := (by have hh := (hu).size; (try simp at hh); omega); have lt1_u_0 : w.heap.size < u.heap.size + 1 := (by omega); have lt2_u_0 : w.heap.size < u.heap.size + 1 + 1 := (by omega); have lt1_u_1 : w.heap.size + 1 < u.heap.size + 1 := (by omega); have lt2_u_1 : w.heap.size + 1 < u.heap.size + 1 + 1 := (by omega); have lt1_u_2 : w.heap.size + 1 + 1 < u.heap.size + 1 := (by omega); have lt2_u_2 : w.heap.size + 1 + 1 < u.heap.size + 1 + 1 := (by omega); have lt1_u_3 : w.heap.size + 1 + 1 + 1 < u.heap.size + 1 := (by omega); have lt2_u_3 : w.heap.size + 1 + 1 + 1 < u.heap.size + 1 + 1 := (by omega)
  have ne_b3_0 : w.heap.size ≠ b3 := (by omega); have en_b3_0 : b3 ≠ w.heap.size := (by omega); have ne_b3_1 : w.heap.size + 1 ≠ b3 := (by omega); have en_b3_1 : b3 ≠ w.heap.size + 1 := (by omega); have ne_b3_2 : w.heap.size + 1 + 1 ≠ b3 := (by omega); have en_b3_2 : b3 ≠ w.heap.size + 1 + 1 := (by omega); have ne_b3_3 : w.heap.size + 1 + 1 + 1 ≠ b3 := (by omega); have en_b3_3 : b3 ≠ w.heap.size + 1 + 1 + 1 := (by omega)
  have HK2 := hidE hu
  clear hu hp
  simp only [acA, ac0] at hc3 hr3
  simp only [IntKind.wrap_u32']
  go_wp2
  refine wp_region_ra [0, 1, 2, 3, 4, 5, 6, 7, 8, 9, 10, 11] [12] 0 (Same _) (by kernel_rfl) (by kernel_rfl) (fun u u' h k => Keeps.trans h k) (Keeps.refl _ _).drew ?_
  simp only [opsOf, List.filterMap_cons, List.filterMap_nil, List.getElem?_cons_zero, List.getElem?_cons_succ]
  repeat (refine seqV_run (v := ?_) rfl (fun u hu => ?_) ?_; rotate_left; (focus (obtain ⟨hc, hf, hr, hl, hn, hm⟩ := same_facts hu; clear hu; go_simp; first | done | with_reducible rfl)); (try simp only [Act.put, List.setIfInBounds_toArray, List.set_cons_zero, List.set_cons_succ]))
  refine seqV_nil ?_
  refine tailR_zero fun u3 hu _ => ?_
  obtain ⟨hc4, hf4, hr4, -, -, -⟩ := same_facts hu
  have HK3 := hidE hu
  have r3b := (hr4 b3 (by simp; omega)).trans (show rowAt _ b3 = _ by go_simp; rfl)
  have lt_u3_0 : w.heap.size < u3.heap.size := (by have hh := (hu).size; (try simp at hh); omega); have lt_u3_1 : w.heap.size + 1 < u3.heap.size := (by have hh := (hu).size; (try simp at hh); omega); have lt_u3_2 : w.heap.size + 1 + 1 < u3.heap.size := (by have hh := (hu).size; (try simp at hh); omega); have lt_u3_3 : w.heap.size + 1 + 1 + 1 < u3.heap.size := (by have hh := (hu).size; (try simp at hh); omega); have lt1_u3_0 : w.heap.size < u3.heap.size + 1 := (by omega); have lt2_u3_0 : w.heap.size < u3.heap.size + 1 + 1 := (by omega); have lt1_u3_1 : w.heap.size + 1 < u3.heap.size + 1 := (by omega); have lt2_u3_1 : w.heap.size + 1 < u3.heap.size + 1 + 1 := (by omega); have lt1_u3_2 : w.heap.size + 1 + 1 < u3.heap.size + 1 := (by omega); have lt2_u3_2 : w.heap.size + 1 + 1 < u3.heap.size + 1 + 1 := (by omega); have lt1_u3_3 : w.heap.size + 1 + 1 + 1 < u3.heap.size + 1 := (by omega); have lt2_u3_3 : w.heap.size + 1 + 1 + 1 < u3.heap.size + 1 + 1 := (by omega)
  have lt_u3_b : b3 < u3.heap.size := (by have hh := hu.size; simp at hh; omega)
  clear hu
  go_wp2
  refine post_row2 rfl Try.underlying29 rfl infoA Try.underlying31 rfl infoF rfl rfl rfl (by go_simp; rfl) (by go_simp; rfl) rfl rfl ⟨?_, ?_⟩
  · unfold wishL
    rw [if_pos (by first | exact HX.out | (show _ % 1 = 0; omega))]
    rw [low_1 _ p0 p1]; rfl
  · (repeat (first | with_reducible exact Keeps.refl _ _ | (with_reducible refine Keeps.drew ?_) | (with_reducible refine Keeps.alloc ?_ _) | (with_reducible refine Keeps.setRow ?_ (fun h => absurd h (by omega)) _) | (with_reducible refine Keeps.setCell ?_ (fun h => absurd h (by simp only []; omega)) _) | (with_reducible refine Keeps.trans ?_ HK8.out) | (with_reducible refine same_then ?_ HK8.out (fun k hk => by omega)) | (with_reducible refine Keeps.trans ?_ HK7.out) | (with_reducible refine same_then ?_ HK7.out (fun k hk => by omega)) | (with_reducible refine Keeps.trans ?_ HK6.out) | (with_reducible refine same_then ?_ HK6.out (fun k hk => by omega)) | (with_reducible refine Keeps.trans ?_ HK5.out) | (with_reducible refine same_then ?_ HK5.out (fun k hk => by omega)) | (with_reducible refine Keeps.trans ?_ HK4.out) | (with_reducible refine same_then ?_ HK4.out (fun k hk => by omega)) | (with_reducible refine Keeps.trans ?_ HK3.out) | (with_reducible refine same_then ?_ HK3.out (fun k hk => by omega)) | (with_reducible refine Keeps.trans ?_ HK2.out) | (with_reducible refine same_then ?_ HK2.out (fun k hk => by omega)) | (with_reducible refine Keeps.trans ?_ HK1.out) | (with_reducible refine same_then ?_ HK1.out (fun k hk => by omega))))
set_option maxHeartbeats 2000000 in
set_option maxRecDepth 100000 in
theorem want_52 (s : St) (a b imm : Int) (hs : s.Ok) (b0 : 0 ≤ b) (b1 : b < 8) (a0 : 0 ≤ a) (a1 : a < 8) (hi : (⟨52, a, b, imm⟩ : In).Ok) (hm : mayB ⟨52, a, b, imm⟩ false = true) (he : ((s.R b.toNat + imm) % 4294967296) % 2 = 0) (w : World) :
    Calls Try.prog 14 #[.agg (stA s), .agg #[.int .u8 52, .int .u8 a, .int .u8 b, .int .i32 imm]] w fun e w' => e = .returned (.tuple #[.agg (acA (wishL s ⟨52, a, b, imm⟩).1), .agg (flA (wishL s ⟨52, a, b, imm⟩).2)]) ∧ Same w w' := by
  have HM : Hid (∀ w, _) := hidE (fun w => may_any _ false hi w)
  rw [hm] at HM
  simp only [inA] at HM
  have h8 : b.toNat < 8 := by omega
  have h9 : a.toNat < 8 := by omega
  have q0 := hs.r0 7
  have q1 := hs.r1 7
  have p0 := hs.r0 a.toNat
  have p1 := hs.r1 a.toNat
  have hx : (((s.R b.toNat + imm) % 4294967296) % 2 != 0) = false := by rw [he]; rfl
  have HX := hidE he
  clear he
  clear hm hi hs
  go_enter Try.func14, Try.ntmps14
  go_wp2_with fail
  refine (HM.out _).mono ?_
  rintro e w1 ⟨rfl, hk⟩
  obtain ⟨hc1, hf1, hr1, -, -, -⟩ := same_facts hk
  have lt_w1_0 : w.heap.size < w1.heap.size := (by have hh := (hk).size; (try simp at hh); omega); have lt_w1_1 : w.heap.size + 1 < w1.heap.size := (by have hh := (hk).size; (try simp at hh); omega); have lt_w1_2 : w.heap.size + 1 + 1 < w1.heap.size := (by have hh := (hk).size; (try simp at hh); omega); have lt_w1_3 : w.heap.size + 1 + 1 + 1 < w1.heap.size := (by have hh := (hk).size; (try simp at hh); omega); have lt1_w1_0 : w.heap.size < w1.heap.size + 1 := (by omega); have lt2_w1_0 : w.heap.size < w1.heap.size + 1 + 1 := (by omega); have lt1_w1_1 : w.heap.size + 1 < w1.heap.size + 1 := (by omega); have lt2_w1_1 : w.heap.size + 1 < w1.heap.size + 1 + 1 := (by omega); have lt1_w1_2 : w.heap.size + 1 + 1 < w1.heap.size + 1 := (by omega); have lt2_w1_2 : w.heap.size + 1 + 1 < w1.heap.size + 1 + 1 := (by omega); have lt1_w1_3 : w.heap.size + 1 + 1 + 1 < w1.heap.size + 1 := (by omega); have lt2_w1_3 : w.heap.size + 1 + 1 + 1 < w1.heap.size + 1 + 1 := (by omega)
  have HK1 := hidE hk
  clear hk
  go_wp2_with fail
  refine wp_region_ra [0, 1, 2, 3, 4, 5, 6, 7, 8, 9, 10, 11, 12] [13, 14] 1 (Same _) (by kernel_rfl) (by kernel_rfl) (fun u u' h k => Keeps.trans h k) (Keeps.refl _ _).drew ?_
  simp only [opsOf, List.filterMap_cons, List.filterMap_nil, List.getElem?_cons_zero, List.getElem?_cons_succ]
  repeat (refine seqV_run (v := ?_) rfl (fun u hu => ?_) ?_; rotate_left; (focus (obtain ⟨hc, hf, hr, hl, hn, hm⟩ := same_facts hu; clear hu; go_simp; first | done | with_reducible rfl)); (try simp only [Act.put, List.setIfInBounds_toArray, List.set_cons_zero, List.set_cons_succ]))
  refine seqV_call (f := 34) (args := #[.int .u8 52]) (v := .int .i64 2) rfl (fun u hu => ?_) (fun u hu => (csize_any 52 u).mono fun e w' h => ⟨h.1, by rw [h.2]; exact Keeps.refl _ _⟩) ?_
  · go_simp
  simp only [Act.put, List.setIfInBounds_toArray, List.set_cons_zero, List.set_cons_succ]
  repeat (refine seqV_run (v := ?_) rfl (fun u hu => ?_) ?_; rotate_left; (focus (obtain ⟨hc, hf, hr, hl, hn, hm⟩ := same_facts hu; clear hu; go_simp; first | done | with_reducible rfl)); (try simp only [Act.put, List.setIfInBounds_toArray, List.set_cons_zero, List.set_cons_succ]))
  refine seqV_nil ?_
  refine tailR_alloc (t := 29) (Z := acA ac0) w1.heap.size rfl (fun _ _ _ _ => trivial) (fun u o h => h.alloc o) (fun u h => h.size) (fun u hu => ?_) (fun b3 hb3 => ?_)
  · go_simp; rfl
  simp only [Act.put, List.setIfInBounds_toArray, List.set_cons_zero, List.set_cons_succ]
  refine tailR_zero fun u hu hp => ?_
  obtain ⟨-, hp⟩ := hp
  obtain ⟨hc3, hf3, hr3, hl3, -, -⟩ := fresh_of hp hb3
  obtain ⟨hc2, hf2, hr2, -, -, -⟩ := same_facts hu
  have lt_u_0 : w.heap.size < u.heap.size := (by have hh := (hu).size; (try simp at hh); omega); have lt_u_1 : w.heap.size + 1 < u.heap.size := (by have hh := (hu).size; (try simp at hh); omega); have lt_u_2 : w.heap.size + 1 + 1 < u.heap.size := (by have hh := (hu).size; (try simp at hh); omega); have lt_u_3 : w.heap.size + 1 + 1 + 1 < u.heap.size := (by have hh := (hu).size; (try simp at hh); omega); have lt1_u_0 : w.heap.size < u.heap.size + 1 := (by omega); have lt2_u_0 : w.heap.size < u.heap.size + 1 + 1 := (by omega); have lt1_u_1 : w.heap.size + 1 < u.heap.size + 1 := (by omega); have lt2_u_1 : w.heap.size + 1 < u.heap.size + 1 + 1 := (by omega); have lt1_u_2 : w.heap.size + 1 + 1 < u.heap.size + 1 := (by omega); have lt2_u_2 : w.heap.size + 1 + 1 < u.heap.size + 1 + 1 := (by omega); have lt1_u_3 : w.heap.size + 1 + 1 + 1 < u.heap.size + 1 := (by omega); have lt2_u_3 : w.heap.size + 1 + 1 + 1 < u.heap.size + 1 + 1 := (by omega)
  have ne_b3_0 : w.heap.size ≠ b3 := (by omega); have en_b3_0 : b3 ≠ w.heap.size := (by omega); have ne_b3_1 : w.heap.size + 1 ≠ b3 := (by omega); have en_b3_1 : b3 ≠ w.heap.size + 1 := (by omega); have ne_b3_2 : w.heap.size + 1 + 1 ≠ b3 := (by omega); have en_b3_2 : b3 ≠ w.heap.size + 1 + 1 := (by omega); have ne_b3_3 : w.heap.size + 1 + 1 + 1 ≠ b3 := (by omega); have en_b3_3 : b3 ≠ w.heap.size + 1 + 1 + 1 := (by omega)
  have HK2 := hidE hu
  clear hu hp
  simp only [acA, ac0] at hc3 hr3
  simp only [IntKind.wrap_u32']
  go_wp2
  refine post_row2 rfl Try.underlying29 rfl infoA Try.underlying31 rfl infoF rfl rfl rfl (by go_simp; rfl) (by go_simp; rfl) rfl rfl ⟨?_, ?_⟩
  · unfold wishL
    rw [if_pos (by first | exact HX.out | (show _ % 1 = 0; omega))]
    rfl
  · (repeat (first | with_reducible exact Keeps.refl _ _ | (with_reducible refine Keeps.drew ?_) | (with_reducible refine Keeps.alloc ?_ _) | (with_reducible refine Keeps.setRow ?_ (fun h => absurd h (by omega)) _) | (with_reducible refine Keeps.setCell ?_ (fun h => absurd h (by simp only []; omega)) _) | (with_reducible refine Keeps.trans ?_ HK8.out) | (with_reducible refine same_then ?_ HK8.out (fun k hk => by omega)) | (with_reducible refine Keeps.trans ?_ HK7.out) | (with_reducible refine same_then ?_ HK7.out (fun k hk => by omega)) | (with_reducible refine Keeps.trans ?_ HK6.out) | (with_reducible refine same_then ?_ HK6.out (fun k hk => by omega)) | (with_reducible refine Keeps.trans ?_ HK5.out) | (with_reducible refine same_then ?_ HK5.out (fun k hk => by omega)) | (with_reducible refine Keeps.trans ?_ HK4.out) | (with_reducible refine same_then ?_ HK4.out (fun k hk => by omega)) | (with_reducible refine Keeps.trans ?_ HK3.out) | (with_reducible refine same_then ?_ HK3.out (fun k hk => by omega)) | (with_reducible refine Keeps.trans ?_ HK2.out) | (with_reducible refine same_then ?_ HK2.out (fun k hk => by omega)) | (with_reducible refine Keeps.trans ?_ HK1.out) | (with_reducible refine same_then ?_ HK1.out (fun k hk => by omega))))
set_option maxHeartbeats 2000000 in
set_option maxRecDepth 100000 in
theorem want_52_no (s : St) (a b imm : Int) (hs : s.Ok) (b0 : 0 ≤ b) (b1 : b < 8) (a0 : 0 ≤ a) (a1 : a < 8) (hi : (⟨52, a, b, imm⟩ : In).Ok) (hm : mayB ⟨52, a, b, imm⟩ false = true) (he : ((s.R b.toNat + imm) % 4294967296) % 2 ≠ 0) (w : World) :
    Calls Try.prog 14 #[.agg (stA s), .agg #[.int .u8 52, .int .u8 a, .int .u8 b, .int .i32 imm]] w fun e w' => e = .returned (.tuple #[.agg (acA (wishL s ⟨52, a, b, imm⟩).1), .agg (flA (wishL s ⟨52, a, b, imm⟩).2)]) ∧ Same w w' := by
  have HM : Hid (∀ w, _) := hidE (fun w => may_any _ false hi w)
  rw [hm] at HM
  simp only [inA] at HM
  have h8 : b.toNat < 8 := by omega
  have h9 : a.toNat < 8 := by omega
  have q0 := hs.r0 7
  have q1 := hs.r1 7
  have p0 := hs.r0 a.toNat
  have p1 := hs.r1 a.toNat
  have hx : (((s.R b.toNat + imm) % 4294967296) % 2 != 0) = true := bne_iff_ne.mpr he
  have HX := hidE he
  clear he
  clear hm hi hs
  go_enter Try.func14, Try.ntmps14
  go_wp2_with fail
  refine (HM.out _).mono ?_
  rintro e w1 ⟨rfl, hk⟩
  obtain ⟨hc1, hf1, hr1, -, -, -⟩ := same_facts hk
  have lt_w1_0 : w.heap.size < w1.heap.size := (by have hh := (hk).size; (try simp at hh); omega); have lt_w1_1 : w.heap.size + 1 < w1.heap.size := (by have hh := (hk).size; (try simp at hh); omega); have lt_w1_2 : w.heap.size + 1 + 1 < w1.heap.size := (by have hh := (hk).size; (try simp at hh); omega); have lt_w1_3 : w.heap.size + 1 + 1 + 1 < w1.heap.size := (by have hh := (hk).size; (try simp at hh); omega); have lt1_w1_0 : w.heap.size < w1.heap.size + 1 := (by omega); have lt2_w1_0 : w.heap.size < w1.heap.size + 1 + 1 := (by omega); have lt1_w1_1 : w.heap.size + 1 < w1.heap.size + 1 := (by omega); have lt2_w1_1 : w.heap.size + 1 < w1.heap.size + 1 + 1 := (by omega); have lt1_w1_2 : w.heap.size + 1 + 1 < w1.heap.size + 1 := (by omega); have lt2_w1_2 : w.heap.size + 1 + 1 < w1.heap.size + 1 + 1 := (by omega); have lt1_w1_3 : w.heap.size + 1 + 1 + 1 < w1.heap.size + 1 := (by omega); have lt2_w1_3 : w.heap.size + 1 + 1 + 1 < w1.heap.size + 1 + 1 := (by omega)
  have HK1 := hidE hk
  clear hk
  go_wp2_with fail
  refine wp_region_ra [0, 1, 2, 3, 4, 5, 6, 7, 8, 9, 10, 11, 12] [13, 14] 1 (Same _) (by kernel_rfl) (by kernel_rfl) (fun u u' h k => Keeps.trans h k) (Keeps.refl _ _).drew ?_
  simp only [opsOf, List.filterMap_cons, List.filterMap_nil, List.getElem?_cons_zero, List.getElem?_cons_succ]
  repeat (refine seqV_run (v := ?_) rfl (fun u hu => ?_) ?_; rotate_left; (focus (obtain ⟨hc, hf, hr, hl, hn, hm⟩ := same_facts hu; clear hu; go_simp; first | done | with_reducible rfl)); (try simp only [Act.put, List.setIfInBounds_toArray, List.set_cons_zero, List.set_cons_succ]))
  refine seqV_call (f := 34) (args := #[.int .u8 52]) (v := .int .i64 2) rfl (fun u hu => ?_) (fun u hu => (csize_any 52 u).mono fun e w' h => ⟨h.1, by rw [h.2]; exact Keeps.refl _ _⟩) ?_
  · go_simp
  simp only [Act.put, List.setIfInBounds_toArray, List.set_cons_zero, List.set_cons_succ]
  repeat (refine seqV_run (v := ?_) rfl (fun u hu => ?_) ?_; rotate_left; (focus (obtain ⟨hc, hf, hr, hl, hn, hm⟩ := same_facts hu; clear hu; go_simp; first | done | with_reducible rfl)); (try simp only [Act.put, List.setIfInBounds_toArray, List.set_cons_zero, List.set_cons_succ]))
  refine seqV_nil ?_
  refine tailR_alloc (t := 29) (Z := acA ac0) w1.heap.size rfl (fun _ _ _ _ => trivial) (fun u o h => h.alloc o) (fun u h => h.size) (fun u hu => ?_) (fun b3 hb3 => ?_)
  · go_simp; rfl
  simp only [Act.put, List.setIfInBounds_toArray, List.set_cons_zero, List.set_cons_succ]
  refine tailR_zero fun u hu hp => ?_
  obtain ⟨-, hp⟩ := hp
  obtain ⟨hc3, hf3, hr3, hl3, -, -⟩ := fresh_of hp hb3
  obtain ⟨hc2, hf2, hr2, -, -, -⟩ := same_facts hu
  have lt_u_0 : w.heap.size < u.heap.size := (by have hh := (hu).size; (try simp at hh); omega); have lt_u_1 : w.heap.size + 1 < u.heap.size := (by have hh := (hu).size; (try simp at hh); omega); have lt_u_2 : w.heap.size + 1 + 1 < u.heap.size := (by have hh := (hu).size; (try simp at hh); omega); have lt_u_3 : w.heap.size + 1 + 1 + 1 < u.heap.size := (by have hh := (hu).size; (try simp at hh); omega); have lt1_u_0 : w.heap.size < u.heap.size + 1 := (by omega); have lt2_u_0 : w.heap.size < u.heap.size + 1 + 1 := (by omega); have lt1_u_1 : w.heap.size + 1 < u.heap.size + 1 := (by omega); have lt2_u_1 : w.heap.size + 1 < u.heap.size + 1 + 1 := (by omega); have lt1_u_2 : w.heap.size + 1 + 1 < u.heap.size + 1 := (by omega); have lt2_u_2 : w.heap.size + 1 + 1 < u.heap.size + 1 + 1 := (by omega); have lt1_u_3 : w.heap.size + 1 + 1 + 1 < u.heap.size + 1 := (by omega); have lt2_u_3 : w.heap.size + 1 + 1 + 1 < u.heap.size + 1 + 1 := (by omega)
  have ne_b3_0 : w.heap.size ≠ b3 := (by omega); have en_b3_0 : b3 ≠ w.heap.size := (by omega); have ne_b3_1 : w.heap.size + 1 ≠ b3 := (by omega); have en_b3_1 : b3 ≠ w.heap.size + 1 := (by omega); have ne_b3_2 : w.heap.size + 1 + 1 ≠ b3 := (by omega); have en_b3_2 : b3 ≠ w.heap.size + 1 + 1 := (by omega); have ne_b3_3 : w.heap.size + 1 + 1 + 1 ≠ b3 := (by omega); have en_b3_3 : b3 ≠ w.heap.size + 1 + 1 + 1 := (by omega)
  have HK2 := hidE hu
  clear hu hp
  simp only [acA, ac0] at hc3 hr3
  simp only [IntKind.wrap_u32']
  go_wp2
  refine wp_region_ra [0, 1, 2, 3] [4, 5] 1 (SR _ (w.heap.size + 1 + 1) 3) (by kernel_rfl) (by kernel_rfl) SR.same (SR.init (by go_simp; first | done | rfl)) ?_
  simp only [opsOf, List.filterMap_cons, List.filterMap_nil, List.getElem?_cons_zero, List.getElem?_cons_succ]
  repeat (refine seqV_run (v := ?_) rfl (fun u hu => ?_) ?_; rotate_left; (focus (obtain ⟨hc, hf, hr⟩ := SR.facts hu; clear hu; go_simp; first | done | with_reducible rfl)); (try simp only [Act.put, List.setIfInBounds_toArray, List.set_cons_zero, List.set_cons_succ]))
  refine seqV_nil ?_
  refine tailR_row (A := acA ac0) rfl rfl (fun u hu => ?_) ?_
  · have z := hu.z
    clear hu
    go_simp
    rfl
  simp only [Act.put]
  refine tailR_zero fun u4 hu hrow => ?_
  obtain ⟨hc5, hf5, hr5⟩ := SR.facts hu
  have lt_u4_0 : w.heap.size < u4.heap.size := (by have hh := (hu.k).size; (try simp at hh); omega); have lt_u4_1 : w.heap.size + 1 < u4.heap.size := (by have hh := (hu.k).size; (try simp at hh); omega); have lt_u4_2 : w.heap.size + 1 + 1 < u4.heap.size := (by have hh := (hu.k).size; (try simp at hh); omega); have lt_u4_3 : w.heap.size + 1 + 1 + 1 < u4.heap.size := (by have hh := (hu.k).size; (try simp at hh); omega); have lt1_u4_0 : w.heap.size < u4.heap.size + 1 := (by omega); have lt2_u4_0 : w.heap.size < u4.heap.size + 1 + 1 := (by omega); have lt1_u4_1 : w.heap.size + 1 < u4.heap.size + 1 := (by omega); have lt2_u4_1 : w.heap.size + 1 < u4.heap.size + 1 + 1 := (by omega); have lt1_u4_2 : w.heap.size + 1 + 1 < u4.heap.size + 1 := (by omega); have lt2_u4_2 : w.heap.size + 1 + 1 < u4.heap.size + 1 + 1 := (by omega); have lt1_u4_3 : w.heap.size + 1 + 1 + 1 < u4.heap.size + 1 := (by omega); have lt2_u4_3 : w.heap.size + 1 + 1 + 1 < u4.heap.size + 1 + 1 := (by omega)
  have HK4 := hidE hu.k
  clear hu
  go_wp2
  refine post_row2 rfl Try.underlying29 rfl infoA Try.underlying31 rfl infoF rfl rfl rfl (by go_simp; rfl) (by go_simp; rfl) rfl rfl ⟨?_, ?_⟩
  · unfold wishL
    rw [if_neg (by first | exact HX.out | (show _ % 1 = 0; omega))]
    rfl
  · (repeat (first | with_reducible exact Keeps.refl _ _ | (with_reducible refine Keeps.drew ?_) | (with_reducible refine Keeps.alloc ?_ _) | (with_reducible refine Keeps.setRow ?_ (fun h => absurd h (by omega)) _) | (with_reducible refine Keeps.setCell ?_ (fun h => absurd h (by simp only []; omega)) _) | (with_reducible refine Keeps.trans ?_ HK8.out) | (with_reducible refine same_then ?_ HK8.out (fun k hk => by omega)) | (with_reducible refine Keeps.trans ?_ HK7.out) | (with_reducible refine same_then ?_ HK7.out (fun k hk => by omega)) | (with_reducible refine Keeps.trans ?_ HK6.out) | (with_reducible refine same_then ?_ HK6.out (fun k hk => by omega)) | (with_reducible refine Keeps.trans ?_ HK5.out) | (with_reducible refine same_then ?_ HK5.out (fun k hk => by omega)) | (with_reducible refine Keeps.trans ?_ HK4.out) | (with_reducible refine same_then ?_ HK4.out (fun k hk => by omega)) | (with_reducible refine Keeps.trans ?_ HK3.out) | (with_reducible refine same_then ?_ HK3.out (fun k hk => by omega)) | (with_reducible refine Keeps.trans ?_ HK2.out) | (with_reducible refine same_then ?_ HK2.out (fun k hk => by omega)) | (with_reducible refine Keeps.trans ?_ HK1.out) | (with_reducible refine same_then ?_ HK1.out (fun k hk => by omega))))
end Go.Proofs.Ytdbfjgmehmbefaa
