/- The law's own chain: made, and that it works. -/
import Derived.Test.YtomphgpplbekiaaGreatChW
namespace Go.Proofs.YtomphgpplbekiaaGreat
open Go.RowKit
attribute [local go_sem ↓] Go.wp_at_zero Go.wp_at_succ

theorem notW {w : World} {N cb : Nat} {R : RamAt} {M : List Int} {V : CV} {l : List Fb} {hi mi : Int} (h : IsCache w N cb R M V l hi mi) {k : Nat} {t : TypeId} (ht : tg w k = some (some t))
    (h1 : (some t : Option TypeId) ≠ some 100) (h2 : (some t : Option TypeId) ≠ some 112) (h3 : (some t : Option TypeId) ≠ some 3) (h4 : (some t : Option TypeId) ≠ some 5) : ¬ Wr cb R V k := by
  obtain ⟨a1, a2, a3, a4, a5, a6, a7⟩ := h.c_.tA
  rintro (e | e | e | e | e)
  · exact ne_tg ht a1 h1 e
  · exact ne_tg ht (a6 k e) h2 rfl
  · exact ne_tg ht (a7 k e) h3 rfl
  · exact ne_tg ht a5 (by simp) e
  · exact ne_tg ht a4 h4 e
theorem notWm {w : World} {N cb : Nat} {R : RamAt} {M : List Int} {V : CV} {l : List Fb} {hi mi : Int} (h : IsCache w N cb R M V l hi mi) {k : Nat} (ht : tg w k = some none) (hm : k ≠ V.mb) : ¬ Wr cb R V k := by
  obtain ⟨a1, a2, a3, a4, a5, a6, a7⟩ := h.c_.tA
  rintro (e | e | e | e | e)
  · exact ne_tg ht a1 (by simp) e
  · exact ne_tg ht (a6 k e) (by simp) rfl
  · exact ne_tg ht (a7 k e) (by simp) rfl
  · exact hm e
  · exact ne_tg ht a4 (by simp) e
/-- The law's play. -/
def playA (rb cb xb g1 g2 : Nat) : Array Value := #[.pointer (some ⟨rb, 0, none⟩), .pointer (some ⟨cb, 0, none⟩), .pointer (some ⟨xb, 0, none⟩), .pointer (some ⟨g1, 0, none⟩), .pointer (some ⟨g2, 0, none⟩)]
set_option maxRecDepth 100000 in
theorem made23 (w : World) : Calls Tryz.prog 67 #[] w fun e w' => ∃ R M cb V xb lb g1 g2 pb, e = .returned (.pointer (some ⟨pb, 0, none⟩)) ∧ w'.heap[pb]? = some (.cells (playA R.b cb xb g1 g2) 147 (0, 0)) ∧ IsCache w' w.heap.size cb R M V [] 0 0 ∧ R.n = 6 ∧
    w'.heap[xb]? = some (.cells (chainA R.b cb lb) 70 (0, 0)) ∧ w'.heap[lb]? = some (.map #[] 0) ∧ lb ≠ V.mb ∧ w.heap.size ≤ lb ∧ Same w w' := by
  go_enter Tryz.func67, Tryz.ntmps67
  go_wp2_with fail
  refine (new_ram _ 6 (by omega) (by omega)).mono ?_
  rintro _ w1 ⟨R, rfl, hn, -, hR, hk1, -, -, hA⟩
  have HR := hidE hR
  have HK1 := hidE hk1
  clear hR hk1
  go_wp2_with fail
  refine (cs_new _ R _ HR.out w.heap.size HK1.out.size hA).mono ?_
  rintro _ w2 ⟨cb, V, rfl, hC, hk2, -⟩
  have HC := hidE hC
  have HK2 := hidE (HK1.out.trans hk2)
  clear hC hk2
  go_wp2_with fail
  refine (ch_new _ R _ HC.out.ram cb).mono ?_
  rintro _ w3 ⟨rfl, h1, h2, h3⟩
  have hz2 := HK2.out.size
  have hmb : w2.heap.size ≠ V.mb := Nat.ne_of_gt (HC.out.c_.lt _ (.inr (.inr (.inr (.inl rfl)))))
  have HX := hidE h1
  have HL := hidE h2
  have HC3 := hidE (HC.out.same h3)
  have HK3 := hidE (HK2.out.trans h3)
  clear h1 h2 h3
  go_wp2
  go_ret
  have k4 := (((Keeps.refl (fun _ => False) w3).alloc (.cells #[.slice none 0 0, .int .i64 0, .int .i64 0, .int .i64 384] 56)).alloc (.cells #[.slice none 0 0] 178)).alloc (.cells (playA R.b cb (w2.heap.size + 1) w3.heap.size (w3.heap.size + 1)) 147)
  exact ⟨R, _, cb, V, w2.heap.size + 1, w2.heap.size, w3.heap.size, w3.heap.size + 1, w3.heap.size + 1 + 1, rfl, block_atR _ (by simp), HC3.out.same k4, hn, k4.get HX.out id, k4.get HL.out id, hmb, hz2, HK3.out.trans k4⟩
section
attribute [local go_sem ↓] x_stKy x_stRw x_stLd x_stOu x_stRb x_stCd x_stBk x_stLk
attribute [local go_sem] st_Ky st_Rw st_Ld st_Ou st_Rb st_Cd st_Bk st_Lk ne_s1 en_s1 ne_s2 en_s2 ne_s3 en_s3 ne_s4 en_s4 ne_s5 en_s5 ne_s6 en_s6 ne_s7 en_s7 ne_s8 en_s8 lt_s2 lt_s3 lt_s4 lt_s5 lt_s6 lt_s7 lt_s8 rowAt_at rowAt_old rowAt_drew rowAt_drewN setRow_drew setRow_at setRow_old setRow_setRow rowAt_setRow_eq rowAt_setRow_ne cell_setRow_eq cell_setRow_ne frozen_setRow_eq frozen_setRow_ne ones_lit oc_int oc_bool oc_str oc_ptr oc_sl oc_map oc_fn oc_nf oc_ni oc_if
set_option maxRecDepth 100000 in
theorem ch_to0 (w : World) (xb rb cb lb : Nat) (x : Int) (hx : w.heap[xb]? = some (.cells (chainA rb cb lb) 70 (0, 0))) (hl : w.heap[lb]? = some (.map #[] 0)) :
    Calls Tryz.prog 21 #[.pointer (some ⟨xb, 0, none⟩), .int .i64 x] w fun e w' => e = .returned (.tuple #[.agg keyZ, .bool false]) ∧ Same w w' := by
  have k0 := (Keeps.refl (fun _ => False) w).alloc (.cells keyZ 31)
  have b0 := block_new w (.cells keyZ 31)
  have HX := hidE (k0.get hx id)
  have HK := hidE k0
  have cw := cell_of hx
  have lx := lt_of_block hx
  have nx0 : xb ≠ w.heap.size := by omega
  have nx0' : w.heap.size ≠ xb := by omega
  have hl3 := look_l0 (k0.get hl id) x
  have r0 := rowAt_of b0
  clear hx hl k0 b0
  simp only [chainA, keyZ, linkZ] at *
  go_enter Tryz.func21, Tryz.ntmps21
  go_wp2_with fail
  refine (ch_is _ xb _ _ _ HX.out).mono ?_
  rintro _ w1 ⟨rfl, rfl⟩
  go_wp2
  refine post_row1 (v := .bool false) rfl Tryz.underlying31 rfl infoKy rfl rfl rfl (by go_simp) rfl ⟨rfl, HK.out.alloc _⟩
end
section
attribute [local go_sem ↓] x_stKy x_stRw x_stLd x_stOu x_stRb x_stCd x_stBk x_stLk
attribute [local go_sem] st_Ky st_Rw st_Ld st_Ou st_Rb st_Cd st_Bk st_Lk ne_s1 en_s1 ne_s2 en_s2 ne_s3 en_s3 ne_s4 en_s4 ne_s5 en_s5 ne_s6 en_s6 ne_s7 en_s7 ne_s8 en_s8 lt_s2 lt_s3 lt_s4 lt_s5 lt_s6 lt_s7 lt_s8 rowAt_at rowAt_old rowAt_drew rowAt_drewN setRow_drew setRow_at setRow_old setRow_setRow rowAt_setRow_eq rowAt_setRow_ne cell_setRow_eq cell_setRow_ne frozen_setRow_eq frozen_setRow_ne ones_lit oc_int oc_bool oc_str oc_ptr oc_sl oc_map oc_fn oc_nf oc_ni oc_if
attribute [local go_sem ↓] x_neKy x_neRw x_neOu x_eqKy x_eqRw x_eqOu
attribute [local go_sem] ne_Ky ne_Rw ne_Ou eq_Ky eq_Rw eq_Ou
def insV (b : Nat) : Value := .slice (some ⟨b, 0, none⟩) 1 1
theorem insV_inj (b b' : Nat) (h : insV b = insV b') : b = b' := by
  simp only [insV, Value.slice.injEq, Option.some.injEq, Addr.mk.injEq] at h
  exact h.1.1
set_option maxRecDepth 100000 in
set_option maxHeartbeats 4000000 in
theorem works23 (w : World) : Calls Tryz.prog 29 #[] w fun e w' => e = .returned (.bool true) ∧ Same w w' := by
  go_enter Tryz.func29, Tryz.ntmps29
  go_wp2_with fail
  refine (made23 _).mono ?_
  rintro _ w1 ⟨R, M, cb, V, xb, lb, g1, g2, pb, rfl, hp, hC, hn, hx, hl, hml, hls, hk1⟩
  have k2 := (Keeps.refl (fun _ => False) w1).alloc (.cells #[.int .u32 8, .int .u32 0] 31)
  have HP := hidE (k2.get hp id)
  have HC2 := hidE (hC.same k2)
  have HX := hidE (k2.get hx id)
  have HL := hidE (k2.get hl id)
  have BK := hidE (block_new w1 (.cells #[.int .u32 8, .int .u32 0] 31))
  have HK2 := hidE (hk1.trans k2)
  clear hp hC hx hl hk1 k2
  simp only [playA] at *
  go_wp2_with fail
  obtain ⟨W2, hW2⟩ : ∃ W2, w1.alloc (.cells #[.int .u32 8, .int .u32 0] 31) = W2 := ⟨_, rfl⟩
  rw [hW2] at HP HC2 HX HL BK HK2 ⊢
  clear hW2
  have nP := notW HC2.out (tg_cells HP.out) (by decide) (by decide) (by decide) (by decide)
  have nK := notW HC2.out (tg_cells BK.out) (by decide) (by decide) (by decide) (by decide)
  have nX := notW HC2.out (tg_cells HX.out) (by decide) (by decide) (by decide) (by decide)
  have nL := notWm HC2.out (tg_map HL.out) hml
  refine wp_region_rzM insV insV_inj [0, 1, 2, 3, 4, 5] [6] 7 [] [8, 9] 2 (Keeps (fun g => Wr cb R V g) W2) W2.heap.size (by kernel_rfl) (by kernel_rfl) (fun u u' h k => h.trans (k.mono fun _ _ h => h.elim)) (Keeps.refl _ _).drew (Same W2) (fun u u' h k => h.trans k) (Keeps.refl _ _).drew (fun u h => h.size) _ rfl rfl (Z := #[.int .u32 8]) (ty := 29) (fun a u hu => by simp only [insV]; clear hu; go_simp) ?_
  simp only [opsOf, List.filterMap_cons, List.filterMap_nil, List.getElem?_cons_zero, List.getElem?_cons_succ]
  repeat (first | (refine seqV_run (v := ?_) rfl (fun u hu => ?_) ?_; rotate_left; (focus (have d1 := cell_of (hu.get HP.out nP); have d2 := cell_of (hu.get BK.out nK); clear hu; go_simp; first | done | with_reducible rfl)); (try simp only [Act.put, List.setIfInBounds_toArray, List.set_cons_zero, List.set_cons_succ])) | (refine seqV_no rfl ?_; (try simp only [Act.put, List.setIfInBounds_toArray, List.set_cons_zero, List.set_cons_succ])))
  refine seqV_nil ?_
  refine chainP_new W2.heap.size (mk := insV) (Z := #[.int .u8 0, .int .u8 0, .int .u8 0, .int .i32 0]) (t := 122) rfl (fun u h => h.size) (fun u u' h k => h.trans k) (fun u hu hp => by simp only [insV]; clear hu hp; go_simp) (fun b6 hb6 => ?_) insV_inj (fun a Ψ Ψ' hm hk => seqV_mono (fun a' hk b hb => tailR_mono (fun u hu => ⟨hm u hu.1, hu.2⟩) (hk b hb)) _ _ hk)
  (try simp only [Act.put, List.setIfInBounds_toArray, List.set_cons_zero, List.set_cons_succ])
  refine chainP_nil ?_
  refine seqV_nil ?_
  intro b7 hb7
  (try simp only [List.setIfInBounds_toArray, List.set_cons_zero, List.set_cons_succ])
  (try simp only [insV])
  ((refine tailR_run (v := ?_) rfl (fun _ _ h k => ⟨⟨h.1.1.trans k, k.get h.1.2 id⟩, k.get h.2 id⟩) (fun u hu hp => ?_) ?_; rotate_left; (focus (clear hu hp; go_simp; first | done | with_reducible rfl)); (try simp only [Act.put, List.setIfInBounds_toArray, List.set_cons_zero, List.set_cons_succ])))
  refine tailR_cons (fun _ u => ∃ V' x, x.1 = fpC 8 ∧ IsCache u w.heap.size cb R (R.put M 0 [0, 112, 1, 113, 0, 0]) V' [x] 0 0) rfl (fun v u u' h k => by obtain ⟨V', x, h1, h2⟩ := h; exact ⟨V', x, h1, h2.same k⟩) (fun u hu hp => ?_) (fun v hv => ?_)
  · obtain ⟨⟨hs, h6⟩, h7⟩ := hp
    refine stepR_callM2 (w' := u) (f := 38) (args := #[.pointer (some ⟨cb, 0, none⟩), .agg #[.int .u32 8, .int .u32 0], .agg #[.slice (some ⟨b6, 0, none⟩) 1 1, .slice (some ⟨b7, 0, none⟩) 1 1, .int .u32 8, .int .u32 0, .int .i64 1, .slice none 0 0, .slice none 0 0]]) (by clear hu hs h6 h7; go_simp) ?_
    refine (put_first (HC2.out.same hs) (HK2.out.trans hs).size b6 b7 8 (by omega) (by omega) h6 h7).mono ?_
    rintro _ w4 ⟨V', x, hx, rfl, hI, hk⟩
    exact ⟨_, rfl, (hs.mono fun _ _ h => h.elim).trans hk, V', x, hx, hI⟩
  clear hv
  refine tailR_zero fun u9 hu hp => ?_
  (try simp only [Act.put, List.setIfInBounds_toArray, List.set_cons_zero, List.set_cons_succ])
  obtain ⟨V', x, hx, hI⟩ := hp
  have hfar : ∀ k, Wr cb R V k → w.heap.size ≤ k := HC2.out.far
  have HXX := hidE hx
  have HI9 := hidE hI
  have HP9 := hidE (hu.get HP.out nP)
  have HX9 := hidE (hu.get HX.out nX)
  have HL9 := hidE (hu.get HL.out nL)
  have BK9 := hidE (hu.get BK.out nK)
  have HK9 := hidE (same_then HK2.out hu hfar)
  clear hu hx hI HP HX HL BK HK2 hfar nP nK nX nL HC2
  have cP := cell_of HP9.out
  go_wp2_with fail
  refine (ch_to0 u9 xb R.b cb lb 0 HX9.out HL9.out).mono ?_
  rintro _ w10 ⟨rfl, hk⟩
  simp only [keyZ]
  have k11 := hk.trans ((Keeps.refl (fun _ => False) w10).alloc (.cells #[.int .u32 0, .int .u32 0] 31))
  have HI := hidE (HI9.out.same k11)
  have HP := hidE (k11.get HP9.out id)
  have HX := hidE (k11.get HX9.out id)
  have HL := hidE (k11.get HL9.out id)
  have BK := hidE (k11.get BK9.out id)
  have B3 := hidE (block_new w10 (.cells #[.int .u32 0, .int .u32 0] 31))
  have HK := hidE (HK9.out.trans k11)
  clear hk k11 HI9 HP9 HX9 HL9 BK9 HK9 cP
  go_wp2_with fail
  obtain ⟨W2, hW2⟩ : ∃ W2, w10.alloc (.cells #[.int .u32 0, .int .u32 0] 31) = W2 := ⟨_, rfl⟩
  rw [hW2] at HI HP HX HL BK B3 HK ⊢
  clear hW2
  have tA := HI.out.c_.tA
  have nF : ∀ (k : Nat) (A : Array Value) (t : TypeId), W2.heap[k]? = some (.cells A t (0, 0)) → some t ≠ some 100 → some t ≠ some 5 → ¬ (k = cb ∨ k = R.A ∨ k = lb) := fun k A t h h1 h2 e => by
    rcases e with e | e | e
    · exact ne_tg (tg_cells h) tA.1 h1 e
    · exact ne_tg (tg_cells h) tA.2.2.2.1 h2 e
    · exact ne_tg (tg_cells h) (tg_map HL.out) (by simp) e
  have nP := nF _ _ _ HP.out (by decide) (by decide)
  have nK := nF _ _ _ BK.out (by decide) (by decide)
  have n3 := nF _ _ _ B3.out (by decide) (by decide)
  have hfar : ∀ k, (k = cb ∨ k = R.A ∨ k = lb) → w.heap.size ≤ k := fun k e => by
    rcases e with rfl | rfl | rfl
    · exact HI.out.far _ (.inl rfl)
    · exact HI.out.far _ (.inr (.inr (.inr (.inr rfl))))
    · exact hls
  have s2 : same2 0 0 0 0 = true := by decide
  clear nF tA
  refine wp_region_rs [0, 1, 2, 3, 4, 5, 6, 7, 8, 9, 10, 11] [12] [13, 14] [] 0 (Keeps (fun k => k = cb ∨ k = R.A ∨ k = lb) W2) (Same W2) (by kernel_rfl) (by kernel_rfl) (fun u u' h k => h.trans (k.mono fun _ _ h => h.elim)) (Keeps.refl _ _).drew (fun u u' h k => h.trans k) (Keeps.refl _ _).drew ?_
  simp only [opsOf, List.filterMap_cons, List.filterMap_nil, List.getElem?_cons_zero, List.getElem?_cons_succ]
  repeat (first | (refine seqV_run (v := ?_) rfl (fun u hu => ?_) ?_; rotate_left; (focus (have d1 := cell_of (hu.get HP.out nP); have d2 := cell_of (hu.get BK.out nK); have d3 := cell_of (hu.get B3.out n3); clear hu; go_simp; first | done | with_reducible rfl)); (try simp only [Act.put, List.setIfInBounds_toArray, List.set_cons_zero, List.set_cons_succ])) | (refine seqV_no rfl ?_; (try simp only [Act.put, List.setIfInBounds_toArray, List.set_cons_zero, List.set_cons_succ])))
  refine seqV_nil ?_
  refine chainS_call (f := 22) (args := #[.pointer (some ⟨xb, 0, none⟩), .int .i64 0, .agg #[.int .u32 8, .int .u32 0]]) (fun v u => v = .bool true ∧ ∃ M', IsRam u R M' ∧ R.get M' 3 = 64) rfl (fun v u u' h k => ⟨h.1, h.2.elim fun M' h => ⟨M', h.1.same k, h.2⟩⟩) (fun u hu hp => by clear hu hp; go_simp) (fun u hu hp => ?_) (fun v hv => ?_)
  · refine (link_first (HI.out.same hp) HXX.out ⟨by omega, by omega⟩ ⟨by omega, by omega⟩ xb lb (hp.get HX.out id) (hp.get HL.out id)).mono ?_
    rintro _ w4 ⟨rfl, hM, hk⟩
    exact ⟨_, rfl, hu.trans hk, rfl, hM⟩
  obtain ⟨_, _, rfl, _⟩ := hv
  refine chainS_nil ?_
  (try simp only [Act.put, List.setIfInBounds_toArray, List.set_cons_zero, List.set_cons_succ])
  repeat (first | (refine seqV_run (v := ?_) rfl (fun u hu => ?_) ?_; rotate_left; (focus (clear hu; go_simp; first | done | with_reducible rfl)); (try simp only [Act.put, List.setIfInBounds_toArray, List.set_cons_zero, List.set_cons_succ])) | (refine seqV_no rfl ?_; (try simp only [Act.put, List.setIfInBounds_toArray, List.set_cons_zero, List.set_cons_succ])))
  refine seqV_nil ?_
  refine tailR_zero fun u12 hu hp => ?_
  (try simp only [Act.put, List.setIfInBounds_toArray, List.set_cons_zero, List.set_cons_succ])
  obtain ⟨-, M', hr, hg⟩ := hp
  have cP := cell_of (hu.get HP.out nP)
  have HR := hidE hr
  have HK12 := hidE (same_then HK.out hu hfar)
  clear hu hr HI HP HX HL BK B3 HK nP nK n3 hfar
  go_wp2_with fail
  refine (byte_ram u12 HR.out 3 (by omega)).mono ?_
  rintro _ w13 ⟨rfl, rfl⟩
  rw [if_pos (by omega), hg]
  go_wp2
  go_ret
  exact ⟨rfl, HK12.out⟩
end
end Go.Proofs.YtomphgpplbekiaaGreat
