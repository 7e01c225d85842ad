/- A chain's first link. -/
import Derived.Test.YtomphgpplbekiaaGreatChN
import Derived.Test.YtomphgpplbekiaaGreatCnO2
import Derived.Test.YtomphgpplbekiaaGreatRz2
import Derived.Test.YtomphgpplbekiaaGreatCnC
import Derived.StillTailTactics
namespace Go.Proofs.YtomphgpplbekiaaGreat
open Go.RowKit
attribute [local go_sem ↓] Go.wp_at_zero Go.wp_at_succ

def linkZ : Array Value := #[.int .u32 0, .int .u32 0, .int .u32 0, .int .u32 0, .int .i64 0]
theorem check_in (e : Bool) (a : Int) (w : World) : (Instr.checkKey e 10000 3 (.int .i64 a)).run Tryz.prog w = .ok () w := by kernel_rfl
theorem find_in0 (a : Int) (w : World) : (Instr.findKey 3 (.int .i64 a) []).run Tryz.prog w = .ok none w := by kernel_rfl
theorem zero_lk (w : World) : (zeroValue 128).run Tryz.prog w = .ok (.agg linkZ) w := Tryz.zeroValue128 w
theorem look_l0 {w : World} {b : Nat} (h : w.heap[b]? = some (.map #[] 0)) (a : Int) : (Instr.lookup 68 (.map (some b)) (.int .i64 a) true).run Tryz.prog w = .ok (.tuple #[.agg linkZ, .bool false]) w := by
  have h3 := find_in0 a w
  simp [Instr.lookup, run_underlying Tryz.underlying68, MapKept.run_getObj_map h, check_in, h3, linkZ, Result.andThen]
theorem put_l0 {w : World} {b : Nat} (h : w.heap[b]? = some (.map #[] 0)) (a : Int) (v : Value) : ∃ w', (Instr.mapUpdate 68 (.map (some b)) (.int .i64 a) v).run Tryz.prog w = .ok () w' ∧ Keeps (fun k => k = b) w w' := by
  have h3 := find_in0 a w
  refine ⟨{ w with heap := w.heap.setIfInBounds b (.map ((#[] : Array MapEntry).push ⟨.int .i64 a, v, 0⟩) (0 + 1)) }, ?_, keeps_obj h⟩
  simp [Instr.mapUpdate, run_underlying Tryz.underlying68, MapKept.run_getObj_map h, check_in, h3, MapKept.run_setObj_map _ h, Result.andThen]
theorem get_put3 {w : World} {R : RamAt} {M : List Int} (h : IsRam w R M) : R.get (R.put M 3 (jmpL (-6))) 3 = 64 := by
  have h1 := h.fit 0 h.n1
  have e3 : R.pos 3 = 64 * R.F 0 + 3 := rfl
  have e4 : R.pos 4 = 64 * R.F 0 + 4 := rfl
  have e5 : R.pos 5 = 64 * R.F 0 + 5 := rfl
  have hl : 64 * R.F 0 + 3 < M.length := by omega
  simp only [jmpL, RamAt.put, RamAt.get, e3, Nat.reduceAdd, e4, e5]
  simp [List.getD_eq_getElem?_getD, hl]
theorem ch_is (w : World) (xb rb cb lb : Nat) (h : w.heap[xb]? = some (.cells (chainA rb cb lb) 70 (0, 0))) : Calls Tryz.prog 58 #[.pointer (some ⟨xb, 0, none⟩)] w fun e w' => e = .returned (.bool false) ∧ w = w' := by
  have c0 := cell_of h
  simp only [chainA] at c0
  clear h
  go_enter Tryz.func58, Tryz.ntmps58
  go_wp2_with fail
  go_ret
  exact ⟨rfl, rfl⟩
section
attribute [local go_sem ↓] x_stKy x_stRw x_stLd x_stOu x_stRb x_stCd x_stBk x_stLk
attribute [local go_sem] st_Ky st_Rw st_Ld st_Ou st_Rb st_Cd st_Bk st_Lk ne_s1 en_s1 ne_s2 en_s2 ne_s3 en_s3 ne_s4 en_s4 ne_s5 en_s5 ne_s6 en_s6 ne_s7 en_s7 ne_s8 en_s8 lt_s2 lt_s3 lt_s4 lt_s5 lt_s6 lt_s7 lt_s8 rowAt_at rowAt_old rowAt_drew rowAt_drewN setRow_drew setRow_at setRow_old setRow_setRow rowAt_setRow_eq rowAt_setRow_ne cell_setRow_eq cell_setRow_ne frozen_setRow_eq frozen_setRow_ne ones_lit oc_int oc_bool oc_str oc_ptr oc_sl oc_map oc_fn oc_nf oc_ni oc_if
set_option maxRecDepth 100000 in
set_option maxHeartbeats 4000000 in
theorem link_first {w : World} {N cb : Nat} {R : RamAt} {M : List Int} {V : CV} {x : Fb} {hi mi : Int} (h : IsCache w N cb R M V [x] hi mi) (hx : x.1 = fpC 8) (h0 : 0 ≤ hi ∧ hi < 1000000) (h1 : 0 ≤ mi ∧ mi < 1000000) (xb lb : Nat)
    (hxb : w.heap[xb]? = some (.cells (chainA R.b cb lb) 70 (0, 0))) (hlb : w.heap[lb]? = some (.map #[] 0)) :
    Calls Tryz.prog 22 #[.pointer (some ⟨xb, 0, none⟩), .int .i64 0, .agg #[.int .u32 8, .int .u32 0]] w fun e w' => e = .returned (.bool true) ∧ (∃ M', IsRam w' R M' ∧ R.get M' 3 = 64) ∧ Keeps (fun k => k = cb ∨ k = R.A ∨ k = lb) w w' := by
  have hos : (ownL (pl [x])).length ≤ 60000 := by simp only [pl, List.map_cons, List.map_nil, hx]; decide
  have hbd : ∀ y ∈ [x], 0 ≤ y.1.pos ∧ y.1.pos ≤ 1000000 ∧ y.1.rs.length ≤ 5000 ∧ ∀ r ∈ y.1.rs, 0 ≤ r.off ∧ r.off ≤ 1000000 := by
    intro y hy
    obtain rfl : y = x := by simpa using hy
    rw [hx]
    refine ⟨by decide, by decide, by decide, by decide⟩
  have hov : outV [x] 0 = .tuple #[.agg #[.int .u32 8, .int .u32 0, .int .i64 3, .int .u32 8], .bool true] := by
    have hown : ownedL [x] 0 = some x := by
      simp only [ownedL, pl, List.map_cons, List.map_nil, hx]
      simp [ownL, exN, exL, fpC, hx]
    rw [outV_yes (r := ⟨3, 8, 0, 0⟩) hown (by rw [hx]; rfl), hx]
    rfl
  have hqi : idxL (pl [x]) ((8 : Int), (0 : Int)) = some 0 := by simp only [pl, List.map_cons, List.map_nil, hx]; rfl
  have hpos : x.1.pos = 0 := by rw [hx]; rfl
  have K1 := (Keeps.refl (fun _ => False) w).alloc (.cells #[.int .u32 8, .int .u32 0] 31)
  have B1 := hidE (block_new w (.cells #[.int .u32 8, .int .u32 0] 31))
  have HX := hidE (K1.get hxb id)
  have HL := hidE (K1.get hlb id)
  have HI := hidE (h.same K1)
  have HK1 := hidE K1
  have hN0 := h.ram.n1
  have cw := cell_of hxb
  have lx := lt_of_block hxb
  have ll := lt_of_block hlb
  have nx0 : xb ≠ w.heap.size := by omega
  have nx1 : xb ≠ w.heap.size + 1 := by omega
  have nx0' : w.heap.size ≠ xb := by omega
  have nx1' : w.heap.size + 1 ≠ xb := by omega
  have nk1 : w.heap.size ≠ w.heap.size + 1 := by omega
  clear h K1 hxb hlb
  simp only [chainA] at *
  have c1 := cell_of HX.out
  have HL3 := hidE (fun u (hu : Same (w.alloc (.cells #[.int .u32 8, .int .u32 0] 31)) u) => look_l0 (hu.get HL.out id) 0)
  have hl3 := HL3.out _ (Keeps.refl _ _)
  simp only [linkZ] at hl3
  go_enter Tryz.func22, Tryz.ntmps22
  go_wp2_with fail
  refine (ch_is _ xb _ _ _ HX.out).mono ?_
  rintro _ w1 ⟨rfl, rfl⟩
  go_wp2_with fail
  have k2 := (Keeps.refl (fun _ => False) (w.alloc (.cells #[.int .u32 8, .int .u32 0] 31))).alloc (.cells #[.int .u32 0, .int .u32 0, .int .u32 0, .int .u32 0, .int .i64 0] 128)
  have HI2 := hidE (HI.out.same k2)
  have HK2 := hidE (HK1.out.trans k2)
  have B12 := hidE (k2.get B1.out id)
  have HX2 := hidE (k2.get HX.out id)
  have HL2 := hidE (k2.get HL.out id)
  clear k2 HI HK1 B1 HX HL HL3 hl3
  refine (cs_out HI2.out 0 (by omega) (by omega) hos (by simp) hbd).mono ?_
  rintro _ w3 ⟨rfl, hk3⟩
  rw [hov]
  have lk := lt_of_block B12.out
  have lx2 := lt_of_block HX2.out
  have hz3 := hk3.size
  have HI3 := hidE (HI2.out.same hk3)
  have HK3 := hidE (HK2.out.trans hk3)
  have B13 := hidE (hk3.get B12.out id)
  have HX3 := hidE (hk3.get HX2.out id)
  have HL3 := hidE (hk3.get HL2.out id)
  clear hk3 HI2 HK2 B12 HX2 HL2
  have B14 := hidE (block_old (.cells #[.int .u32 8, .int .u32 0, .int .i64 3, .int .u32 8] 43) B13.out)
  have HX4 := hidE (block_old (.cells #[.int .u32 8, .int .u32 0, .int .i64 3, .int .u32 8] 43) HX3.out)
  have HL4 := hidE (block_old (.cells #[.int .u32 8, .int .u32 0, .int .i64 3, .int .u32 8] 43) HL3.out)
  have BO4 := hidE (block_new w3 (.cells #[.int .u32 8, .int .u32 0, .int .i64 3, .int .u32 8] 43))
  have k4 := (Keeps.refl (fun _ => False) w3).alloc (.cells #[.int .u32 8, .int .u32 0, .int .i64 3, .int .u32 8] 43)
  have HI4 := hidE (HI3.out.same k4)
  have HK4 := hidE (HK3.out.trans k4)
  clear k4
  go_wp2_with fail
  obtain ⟨W4, hW4⟩ : ∃ W4, w3.alloc (.cells #[.int .u32 8, .int .u32 0, .int .i64 3, .int .u32 8] 43) = W4 := ⟨_, rfl⟩
  rw [hW4] at B14 HX4 HL4 BO4 HI4 HK4 ⊢
  clear hW4
  have tA := HI4.out.c_.tA
  have nxc : xb ≠ cb := ne_tg (tg_cells HX4.out) tA.1 (by decide)
  have nkc : w.heap.size ≠ cb := ne_tg (tg_cells B14.out) tA.1 (by decide)
  have noc : w3.heap.size ≠ cb := ne_tg (tg_cells BO4.out) tA.1 (by decide)
  have nlc : lb ≠ cb := ne_tg (tg_map HL4.out) tA.1 (by decide)
  have nxA : xb ≠ R.A := ne_tg (tg_cells HX4.out) tA.2.2.2.1 (by decide)
  have nkA : w.heap.size ≠ R.A := ne_tg (tg_cells B14.out) tA.2.2.2.1 (by decide)
  have noA : w3.heap.size ≠ R.A := ne_tg (tg_cells BO4.out) tA.2.2.2.1 (by decide)
  have nlA : lb ≠ R.A := ne_tg (tg_map HL4.out) tA.2.2.2.1 (by decide)
  clear tA
  refine wp_region_rs [0, 1, 2, 3, 4] [5] [6, 7, 8] [9, 10] 1 (Keeps (fun k => k = cb) W4) (Same W4) (by kernel_rfl) (by kernel_rfl) (fun u u' h k => h.trans (k.mono fun _ _ h => h.elim)) (Keeps.refl _ _).drew (fun u u' h k => h.trans k) (Keeps.refl _ _).drew ?_
  simp only [opsOf, List.filterMap_cons, List.filterMap_nil, List.getElem?_cons_zero, List.getElem?_cons_succ]
  repeat (first | (refine seqV_run (v := ?_) rfl (fun u hu => ?_) ?_; rotate_left; (focus (have d1 := cell_of (hu.get HX4.out nxc); have d2 := cell_of (hu.get B14.out nkc); clear hu; go_simp; first | done | with_reducible rfl)); (try simp only [Act.put, List.setIfInBounds_toArray, List.set_cons_zero, List.set_cons_succ])) | (refine seqV_no rfl ?_; (try simp only [Act.put, List.setIfInBounds_toArray, List.set_cons_zero, List.set_cons_succ])))
  refine seqV_nil ?_
  refine chainS_call (f := 17) (args := #[.pointer (some ⟨cb, 0, none⟩), .agg #[.int .u32 8, .int .u32 0]]) (fun v u => v = .tuple #[.int .i64 0, .bool true] ∧ IsCache u N cb R M V [x] (hi + 1) mi) rfl (fun v u u' h k => ⟨h.1, h.2.same k⟩) (fun u hu hp => by clear hu hp; go_simp) (fun u hu hp => ?_) (fun v hv => ?_)
  · refine (cs_find (HI4.out.same hp) h0 h1 (by simp) 8 0).mono ?_
    intro e w' hq
    unfold FindPost at hq
    rw [hqi] at hq
    obtain ⟨y, hy, rfl, hI5, hk5⟩ := hq
    obtain rfl : x = y := by simpa using hy
    exact ⟨_, rfl, hu.trans hk5, by rw [hpos], hI5⟩
  obtain ⟨_, _, rfl, _⟩ := hv
  refine chainS_nil ?_
  (try simp only [Act.put, List.setIfInBounds_toArray, List.set_cons_zero, List.set_cons_succ])
  repeat (first | (refine seqV_run (v := ?_) rfl (fun u hu => ?_) ?_; rotate_left; (focus (clear hu; go_simp; first | done | with_reducible rfl)); (try simp only [Act.put, List.setIfInBounds_toArray, List.set_cons_zero, List.set_cons_succ])) | (refine seqV_no rfl ?_; (try simp only [Act.put, List.setIfInBounds_toArray, List.set_cons_zero, List.set_cons_succ])))
  refine seqV_nil ?_
  ((refine tailR_run (v := ?_) rfl (fun _ _ h k => ⟨h.1, h.2.same k⟩) (fun u hu hp => ?_) ?_; rotate_left; (focus (clear hu hp; go_simp; first | done | with_reducible rfl)); (try simp only [Act.put, List.setIfInBounds_toArray, List.set_cons_zero, List.set_cons_succ])))
  refine tailR_zero fun u6 hu hp => ?_
  (try simp only [Act.put, List.setIfInBounds_toArray, List.set_cons_zero, List.set_cons_succ])
  have HI6 := hidE hp.2
  have HK6 := hidE ((HK4.out.mono fun _ _ h => h.elim).trans hu)
  have HX6 := hidE (hu.get HX4.out nxc)
  have HL6 := hidE (hu.get HL4.out nlc)
  have BO6 := hidE (hu.get BO4.out noc)
  have B16 := hidE (hu.get B14.out nkc)
  have cO6 := cell_of BO6.out
  clear hu hp HI4 HK4 HX4 HL4 BO4 B14
  go_wp2_with fail
  refine (jump_yes 3 0 (by omega) (by omega) (by omega) (by omega) (by omega) u6).mono ?_
  rintro _ w7 ⟨v7, rfl, hv7, hk7⟩
  rw [show (0 - 3 - 3 : Int) = -6 from by decide] at hv7
  have HI7 := hidE (HI6.out.same hk7)
  have HK7 := hidE (HK6.out.trans (hk7.mono fun _ _ h => h.elim))
  have HX7 := hidE (hk7.get HX6.out id)
  have HL7 := hidE (hk7.get HL6.out id)
  have BO7 := hidE (hk7.get BO6.out id)
  have B17 := hidE (hk7.get B16.out id)
  have HV7 := hidE hv7
  have HAw := hidE (show R.A < u6.heap.size from lt_of_block HI6.out.ram.hA)
  obtain ⟨p7, cp7, rfl⟩ := owns_slice hv7
  have eu := show IntKind.u32.wrap (3 : Int) = 3 by decide
  clear hv7 hk7 HI6 HK6 HX6 HL6 BO6 B16 cO6
  go_wp2_with fail
  refine wp_region_rs [0, 1, 2, 3, 4, 5, 6, 7, 8, 9, 10] [11] [12, 13] [] 0 (Keeps (fun k => k = R.A) w7) (Same w7) (by kernel_rfl) (by kernel_rfl) (fun u u' h k => h.trans (k.mono fun _ _ h => h.elim)) (Keeps.refl _ _).drew (fun u u' h k => h.trans k) (Keeps.refl _ _).drew ?_
  simp only [opsOf, List.filterMap_cons, List.filterMap_nil, List.getElem?_cons_zero, List.getElem?_cons_succ]
  repeat (first | (refine seqV_run (v := ?_) rfl (fun u hu => ?_) ?_; rotate_left; (focus (have d1 := cell_of (hu.get HX7.out nxA); have d2 := cell_of (hu.get BO7.out noA); clear hu; go_simp; first | done | with_reducible rfl)); (try simp only [Act.put, List.setIfInBounds_toArray, List.set_cons_zero, List.set_cons_succ])) | (refine seqV_no rfl ?_; (try simp only [Act.put, List.setIfInBounds_toArray, List.set_cons_zero, List.set_cons_succ])))
  refine seqV_nil ?_
  refine chainS_call (f := 60) (args := #[.pointer (some ⟨R.b, 0, none⟩), .int .u32 3, .slice p7 (jmpL (-6)).length cp7]) (fun v u => v = .bool true ∧ IsRam u R (R.put M 3 (jmpL (-6)))) rfl (fun v u u' h k => ⟨h.1, h.2.same k⟩) (fun u hu hp => by clear hu hp; go_simp) (fun u hu hp => ?_) (fun v hv => ?_)
  · refine (fill_ram u (HI7.out.ram.same hp) 3 (by omega) _ (jmpL (-6)) (bySr_of (owns_apart HV7.out hp (fun _ _ => id)) (by decide) HAw.out)).mono ?_
    intro e w9 hq
    unfold LayPost at hq
    rw [if_pos ⟨by decide, by have : (jmpL (-6)).length = 3 := rfl; omega⟩] at hq
    obtain ⟨rfl, hr9, hk9⟩ := hq
    exact ⟨_, rfl, hu.trans hk9, rfl, hr9⟩
  obtain ⟨_, _, rfl, _⟩ := hv
  refine chainS_nil ?_
  (try simp only [Act.put, List.setIfInBounds_toArray, List.set_cons_zero, List.set_cons_succ])
  repeat (first | (refine seqV_run (v := ?_) rfl (fun u hu => ?_) ?_; rotate_left; (focus (clear hu; go_simp; first | done | with_reducible rfl)); (try simp only [Act.put, List.setIfInBounds_toArray, List.set_cons_zero, List.set_cons_succ])) | (refine seqV_no rfl ?_; (try simp only [Act.put, List.setIfInBounds_toArray, List.set_cons_zero, List.set_cons_succ])))
  refine seqV_nil ?_
  refine tailR_zero fun u9 hu hp => ?_
  (try simp only [Act.put, List.setIfInBounds_toArray, List.set_cons_zero, List.set_cons_succ])
  have HR9 := hidE hp.2
  have HK9 := hidE ((HK7.out.mono fun _ _ h => Or.inl h).trans (hu.mono fun _ _ h => Or.inr h))
  have HX9 := hidE (hu.get HX7.out nxA)
  have HL9 := hidE (hu.get HL7.out nlA)
  have BO9 := hidE (hu.get BO7.out noA)
  have B19 := hidE (hu.get B17.out nkA)
  have HG := hidE (get_put3 HI7.out.ram)
  clear hu hp HI7 HK7 HX7 HL7 BO7 B17 HV7
  go_wp2_with fail
  have NlS : lb ≠ R.b := ne_tg (tg_map HL9.out) (tg_cells HR9.out.hb) (by decide)
  have NlT : lb ≠ R.S := by obtain ⟨cs, h, -⟩ := HR9.out.hS; exact ne_tg (tg_map HL9.out) (tg_cells h) (by decide)
  refine wp_region_ra [0, 1, 2, 3, 4, 5, 6, 7, 8, 9, 10] [11] 0 (Same _) (by kernel_rfl) (by kernel_rfl) (fun u u' h k => Keeps.trans h k) (Keeps.refl _ _).drew ?_; simp only [opsOf, List.filterMap_cons, List.filterMap_nil, List.getElem?_cons_zero, List.getElem?_cons_succ]
  repeat (first | (refine seqV_run (v := ?_) rfl (fun u hu => ?_) ?_; rotate_left; (focus (have d1 := cell_of (hu.get HX9.out id); have d2 := cell_of (hu.get BO9.out id); have d3 := cell_of (hu.get B19.out id); clear hu; go_simp; first | done | with_reducible rfl)); (try simp only [Act.put, List.setIfInBounds_toArray, List.set_cons_zero, List.set_cons_succ])) | (refine seqV_no rfl ?_; (try simp only [Act.put, List.setIfInBounds_toArray, List.set_cons_zero, List.set_cons_succ])))
  refine seqV_nil ?_
  refine tailR_zero fun u10 hu _ => ?_
  (try simp only [Act.put, List.setIfInBounds_toArray, List.set_cons_zero, List.set_cons_succ])
  obtain ⟨u11, hmu, hk11⟩ := put_l0 (hu.get HL9.out id) 0 (.agg #[.int .u32 8, .int .u32 0, .int .u32 8, .int .u32 0, .int .i64 3])
  have HR11 := hidE ((HR9.out.same hu).keeps hk11 NlS.symm NlT.symm nlA.symm)
  have HK10 := HK9.out.trans (hu.mono fun _ _ h => h.elim)
  have HK11 : Hid (Keeps (fun k => k = cb ∨ k = R.A ∨ k = lb) w u11) := hidE ((HK10.mono fun _ _ h => h.elim Or.inl (fun h => Or.inr (Or.inl h))).trans (hk11.mono fun _ _ h => Or.inr (Or.inr h)))
  clear HK10
  clear hu hk11 HR9 HK9 HX9 HL9 BO9 B19
  go_wp2
  go_ret
  exact ⟨rfl, ⟨_, HR11.out, HG.out⟩, HK11.out⟩
end
end Go.Proofs.YtomphgpplbekiaaGreat
