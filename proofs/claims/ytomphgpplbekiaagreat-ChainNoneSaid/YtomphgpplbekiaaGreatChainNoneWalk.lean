/- The walk of the statement ChainNone. -/
import Derived.Test.YtomphgpplbekiaaGreatChM
namespace Go.Proofs.YtomphgpplbekiaaGreat
open Go.RowKit
attribute [local go_sem ↓] Go.wp_at_zero Go.wp_at_succ
section
variable {P : Program} {ops : Array Oper} {S : World → Prop}
theorem chainS_new {K : Act → (World → Prop) → Prop} {o : Oper} {l : List Oper} {a : Act} {Ψ : World → Prop} (mk : Nat → Value) {Z : Array Value} {t : TypeId} (hw : Region.wanted o (yielded ops a.tmps) = true) (hS : ∀ u u', S u → Same u u' → S u')
    (h : ∀ u, S u → Ψ u → (execOp a.eval o).run P u = .ok (.value (mk u.heap.size)) (u.alloc (.cells Z t))) (h2 : ∀ b, chainS P ops S K l (a.put o.dst (mk b)) (fun _ => ∃ b', mk b = mk b')) : chainS P ops S K (o :: l) a Ψ := by
  refine ⟨fun x _ => ∃ b', x = mk b', fun x u u' h _ => h, fun u hu hp => .inl ⟨hw, ?_⟩, fun x hx => ?_⟩
  · rw [h u hu hp]
    exact ⟨hS _ _ hu ((Keeps.refl _ _).alloc _), _, rfl⟩
  · obtain ⟨u, _, b, rfl⟩ := hx
    exact h2 b
end
attribute [local go_sem ↓] x_stKy x_stRw x_stLd x_stOu x_stRb x_stCd x_stBk x_stLk
attribute [local go_sem] st_Ky st_Rw st_Ld st_Ou st_Rb st_Cd st_Bk st_Lk ne_s1 en_s1 ne_s2 en_s2 ne_s3 en_s3 ne_s4 en_s4 ne_s5 en_s5 ne_s6 en_s6 ne_s7 en_s7 ne_s8 en_s8 lt_s2 lt_s3 lt_s4 lt_s5 lt_s6 lt_s7 lt_s8 rowAt_at rowAt_old rowAt_drew rowAt_drewN setRow_drew setRow_at setRow_old setRow_setRow rowAt_setRow_eq rowAt_setRow_ne cell_setRow_eq cell_setRow_ne frozen_setRow_eq frozen_setRow_ne ones_lit oc_int oc_bool oc_str oc_ptr oc_sl oc_map oc_fn oc_nf oc_ni oc_if
attribute [local go_sem ↓] x_neKy x_neRw x_neOu x_eqKy x_eqRw x_eqOu
attribute [local go_sem] ne_Ky ne_Rw ne_Ou eq_Ky eq_Rw eq_Ou
def keyZA : Array Value := #[.int .u32 0, .int .u32 0]
set_option maxRecDepth 100000 in
set_option maxHeartbeats 4000000 in
theorem chainNone_any (w : World) (x k1 k2 : Int) :
    Calls Tryz.prog 5 #[.int .i64 x, .agg #[.int .u32 k1, .int .u32 k2]] w fun e w' => e = .returned (.bool true) ∧ Same w w' := by
  go_enter Tryz.func5, Tryz.ntmps5
  go_wp2_with fail
  obtain ⟨W, hW⟩ : ∃ W, ((w.alloc (.cells #[.int .u32 k1, .int .u32 k2] 31)).alloc (.cells #[.pointer none, .pointer none, .map none] 70)).alloc (.cells #[.pointer none, .pointer (some ⟨w.heap.size + 1, 0, none⟩)] 67) = W := ⟨_, rfl⟩
  have B1 : Hid (W.heap[w.heap.size]? = some (.cells #[.int .u32 k1, .int .u32 k2] 31 (0, 0))) := hidE (by rw [← hW]; exact block_old _ (block_old _ (block_new _ _)))
  have B2 : Hid (W.heap[w.heap.size + 1]? = some (.cells #[.pointer none, .pointer none, .map none] 70 (0, 0))) := hidE (by rw [← hW]; exact block_old _ (block_atR _ (by simp)))
  have B3 : Hid (W.heap[w.heap.size + 1 + 1]? = some (.cells #[.pointer none, .pointer (some ⟨w.heap.size + 1, 0, none⟩)] 67 (0, 0))) := hidE (by rw [← hW]; exact block_atR _ (by simp))
  have HK0 : Hid (Same w W) := hidE (by rw [← hW]; exact (((Keeps.refl _ _).alloc _).alloc _).alloc _)
  rw [hW]
  clear hW
  go_loopw [7] (fun t7 wr => ∃ k : Nat, k ≤ 2 ∧ t7 = .int .i64 (k : Int) ∧ Same W wr) (fun t7 _ => (2 - intOf t7).toNat)
  case atStart => exact ⟨0, by omega, rfl, Keeps.refl _ _⟩
  case round =>
    obtain ⟨k, hk, rfl, hs⟩ := hrel
    have HS := hidE hs
    clear hs
    rcases (show k = 0 ∨ k = 1 ∨ k = 2 by omega) with rfl | rfl | rfl
    · have HN := hidE (fun u (hu : Same W u) => (show NoC u (.pointer none) from .inl rfl))
      have c3 := cell_of (HS.out.get B3.out id)
      go_wp2_with fail
      refine (ch_flush _ (.pointer none) (HN.out _ HS.out)).mono ?_
      rintro _ w1 ⟨rfl, rfl⟩
      go_wp2_with fail
      refine (ch_to _ (.pointer none) x (HN.out _ HS.out)).mono ?_
      rintro _ w2 ⟨rfl, hk⟩
      simp only [keyZ]
      have HS2 := hidE ((HS.out.trans hk).alloc (.cells #[.int .u32 0, .int .u32 0] 31))
      have R2 := hidE (block_new w2 (.cells #[.int .u32 0, .int .u32 0] 31))
      clear hk c3
      go_wp2_with fail
      obtain ⟨W5, hW5⟩ : ∃ W5, w2.alloc (.cells #[.int .u32 0, .int .u32 0] 31) = W5 := ⟨_, rfl⟩
      rw [hW5] at HS2 R2 ⊢
      clear hW5
      have s2 := same2_self 0 0
      refine wp_region_rs [0, 1, 2, 3, 4, 5, 6, 7, 8, 9, 10, 11, 12, 13, 14, 15, 16, 17, 18, 19, 20] [21, 22] [23, 24, 25, 26, 27, 28, 29, 30, 31, 32, 33, 34, 35, 36, 37, 38, 39, 40, 41, 42] [] 0 (Same W5) (fun _ => True) (by kernel_rfl) (by kernel_rfl) (fun u u' h k => h.trans k) (Keeps.refl _ _).drew (fun _ _ _ _ => trivial) trivial ?_
      simp only [opsOf, List.filterMap_cons, List.filterMap_nil, List.getElem?_cons_zero, List.getElem?_cons_succ]
      repeat (first | (refine seqV_run (v := ?_) rfl (fun u hu => ?_) ?_; rotate_left; (focus (have d3 := cell_of ((HS2.out.trans hu).get B3.out id); have d1 := cell_of ((HS2.out.trans hu).get B1.out id); clear hu; go_simp; first | done | with_reducible rfl)); (try simp only [Act.put, List.setIfInBounds_toArray, List.set_cons_zero, List.set_cons_succ])) | (refine seqV_no rfl ?_; (try simp only [Act.put, List.setIfInBounds_toArray, List.set_cons_zero, List.set_cons_succ])))
      (refine seqV_call (f := 22) (args := #[(.pointer none), .int .i64 x, .agg #[.int .u32 k1, .int .u32 k2]]) (v := .bool false) rfl (fun u hu => ?_) (fun u hu => ch_link u (.pointer none) x k1 k2 (HN.out _ (HS2.out.trans hu))) ?_; (focus (clear hu; go_simp)); (try simp only [Act.put, List.setIfInBounds_toArray, List.set_cons_zero, List.set_cons_succ]))
      repeat (first | (refine seqV_run (v := ?_) rfl (fun u hu => ?_) ?_; rotate_left; (focus (have d3 := cell_of ((HS2.out.trans hu).get B3.out id); clear hu; go_simp; first | done | with_reducible rfl)); (try simp only [Act.put, List.setIfInBounds_toArray, List.set_cons_zero, List.set_cons_succ])) | (refine seqV_no rfl ?_; (try simp only [Act.put, List.setIfInBounds_toArray, List.set_cons_zero, List.set_cons_succ])))
      (refine seqV_call (f := 23) (args := #[(.pointer none), .int .i64 x]) (v := .bool false) rfl (fun u hu => ?_) (fun u hu => (ch_unlink u (.pointer none) x (HN.out _ (HS2.out.trans hu))).mono (by rintro _ _ ⟨rfl, rfl⟩; exact ⟨rfl, Keeps.refl _ _⟩)) ?_; (focus (clear hu; go_simp)); (try simp only [Act.put, List.setIfInBounds_toArray, List.set_cons_zero, List.set_cons_succ]))
      repeat (first | (refine seqV_run (v := ?_) rfl (fun u hu => ?_) ?_; rotate_left; (focus (have d3 := cell_of ((HS2.out.trans hu).get B3.out id); have d1 := cell_of ((HS2.out.trans hu).get B1.out id); clear hu; go_simp; first | done | with_reducible rfl)); (try simp only [Act.put, List.setIfInBounds_toArray, List.set_cons_zero, List.set_cons_succ])) | (refine seqV_no rfl ?_; (try simp only [Act.put, List.setIfInBounds_toArray, List.set_cons_zero, List.set_cons_succ])))
      refine seqV_nil ?_
      refine chainS_new insV (Z := #[.int .u32 k1, .int .u32 k2]) (t := 31) rfl (fun u u' h k => h.trans k) (fun u hu hp => by simp only [insV]; clear hu hp; go_simp) (fun b => ?_)
      (try simp only [Act.put, List.setIfInBounds_toArray, List.set_cons_zero, List.set_cons_succ])
      (try simp only [insV])
      refine chainS_call (f := 24) (args := #[(.pointer none), .slice (some ⟨b, 0, none⟩) 1 1]) (fun v _ => v = .slice none 0 0) rfl (fun v u u' h _ => h) (fun u hu hp => by clear hu hp; go_simp) (fun u hu hp => (ch_dropped u (.pointer none) _ (HN.out _ (HS2.out.trans hu))).mono (by rintro _ _ ⟨rfl, hk⟩; exact ⟨_, rfl, hu.trans hk, rfl⟩)) (fun v hv => ?_)
      obtain ⟨_, _, rfl⟩ := hv
      (try simp only [Act.put, List.setIfInBounds_toArray, List.set_cons_zero, List.set_cons_succ])
      refine chainS_nil ?_
      repeat (first | (refine seqV_run (v := ?_) rfl (fun u hu => ?_) ?_; rotate_left; (focus (have d2 := cell_of (hu.get R2.out id); have d3 := cell_of ((HS2.out.trans hu).get B3.out id); clear hu; go_simp; first | done | with_reducible rfl)); (try simp only [Act.put, List.setIfInBounds_toArray, List.set_cons_zero, List.set_cons_succ])) | (refine seqV_no rfl ?_; (try simp only [Act.put, List.setIfInBounds_toArray, List.set_cons_zero, List.set_cons_succ])))
      (refine seqV_call (f := 25) (args := #[(.pointer none)]) (v := .slice none 0 0) rfl (fun u hu => ?_) (fun u hu => (ch_links u (.pointer none) (HN.out _ (HS2.out.trans hu))).mono (by rintro _ _ ⟨rfl, rfl⟩; exact ⟨rfl, Keeps.refl _ _⟩)) ?_; (focus (clear hu; go_simp)); (try simp only [Act.put, List.setIfInBounds_toArray, List.set_cons_zero, List.set_cons_succ]))
      repeat (first | (refine seqV_run (v := ?_) rfl (fun u hu => ?_) ?_; rotate_left; (focus (clear hu; go_simp; first | done | with_reducible rfl)); (try simp only [Act.put, List.setIfInBounds_toArray, List.set_cons_zero, List.set_cons_succ])) | (refine seqV_no rfl ?_; (try simp only [Act.put, List.setIfInBounds_toArray, List.set_cons_zero, List.set_cons_succ])))
      refine seqV_nil ?_
      refine tailR_zero fun u9 hu _ => ?_
      (try simp only [Act.put, List.setIfInBounds_toArray, List.set_cons_zero, List.set_cons_succ])
      have HS9 := hidE (HS2.out.trans hu)
      clear hu
      go_wp2_with fail
      exact ⟨⟨0 + 1, by omega, by simp, HS9.out⟩, by simp only [intOf]; omega⟩
    · have HN := hidE (fun u (hu : Same W u) => (show NoC u (.pointer (some ⟨w.heap.size + 1, 0, none⟩)) from .inr ⟨_, rfl, (cell_of (hu.get B2.out id)) 0⟩))
      have c3 := cell_of (HS.out.get B3.out id)
      go_wp2_with fail
      refine (ch_flush _ (.pointer (some ⟨w.heap.size + 1, 0, none⟩)) (HN.out _ HS.out)).mono ?_
      rintro _ w1 ⟨rfl, rfl⟩
      go_wp2_with fail
      refine (ch_to _ (.pointer (some ⟨w.heap.size + 1, 0, none⟩)) x (HN.out _ HS.out)).mono ?_
      rintro _ w2 ⟨rfl, hk⟩
      simp only [keyZ]
      have HS2 := hidE ((HS.out.trans hk).alloc (.cells #[.int .u32 0, .int .u32 0] 31))
      have R2 := hidE (block_new w2 (.cells #[.int .u32 0, .int .u32 0] 31))
      clear hk c3
      go_wp2_with fail
      obtain ⟨W5, hW5⟩ : ∃ W5, w2.alloc (.cells #[.int .u32 0, .int .u32 0] 31) = W5 := ⟨_, rfl⟩
      rw [hW5] at HS2 R2 ⊢
      clear hW5
      have s2 := same2_self 0 0
      refine wp_region_rs [0, 1, 2, 3, 4, 5, 6, 7, 8, 9, 10, 11, 12, 13, 14, 15, 16, 17, 18, 19, 20] [21, 22] [23, 24, 25, 26, 27, 28, 29, 30, 31, 32, 33, 34, 35, 36, 37, 38, 39, 40, 41, 42] [] 0 (Same W5) (fun _ => True) (by kernel_rfl) (by kernel_rfl) (fun u u' h k => h.trans k) (Keeps.refl _ _).drew (fun _ _ _ _ => trivial) trivial ?_
      simp only [opsOf, List.filterMap_cons, List.filterMap_nil, List.getElem?_cons_zero, List.getElem?_cons_succ]
      repeat (first | (refine seqV_run (v := ?_) rfl (fun u hu => ?_) ?_; rotate_left; (focus (have d3 := cell_of ((HS2.out.trans hu).get B3.out id); have d1 := cell_of ((HS2.out.trans hu).get B1.out id); clear hu; go_simp; first | done | with_reducible rfl)); (try simp only [Act.put, List.setIfInBounds_toArray, List.set_cons_zero, List.set_cons_succ])) | (refine seqV_no rfl ?_; (try simp only [Act.put, List.setIfInBounds_toArray, List.set_cons_zero, List.set_cons_succ])))
      (refine seqV_call (f := 22) (args := #[(.pointer (some ⟨w.heap.size + 1, 0, none⟩)), .int .i64 x, .agg #[.int .u32 k1, .int .u32 k2]]) (v := .bool false) rfl (fun u hu => ?_) (fun u hu => ch_link u (.pointer (some ⟨w.heap.size + 1, 0, none⟩)) x k1 k2 (HN.out _ (HS2.out.trans hu))) ?_; (focus (clear hu; go_simp)); (try simp only [Act.put, List.setIfInBounds_toArray, List.set_cons_zero, List.set_cons_succ]))
      repeat (first | (refine seqV_run (v := ?_) rfl (fun u hu => ?_) ?_; rotate_left; (focus (have d3 := cell_of ((HS2.out.trans hu).get B3.out id); clear hu; go_simp; first | done | with_reducible rfl)); (try simp only [Act.put, List.setIfInBounds_toArray, List.set_cons_zero, List.set_cons_succ])) | (refine seqV_no rfl ?_; (try simp only [Act.put, List.setIfInBounds_toArray, List.set_cons_zero, List.set_cons_succ])))
      (refine seqV_call (f := 23) (args := #[(.pointer (some ⟨w.heap.size + 1, 0, none⟩)), .int .i64 x]) (v := .bool false) rfl (fun u hu => ?_) (fun u hu => (ch_unlink u (.pointer (some ⟨w.heap.size + 1, 0, none⟩)) x (HN.out _ (HS2.out.trans hu))).mono (by rintro _ _ ⟨rfl, rfl⟩; exact ⟨rfl, Keeps.refl _ _⟩)) ?_; (focus (clear hu; go_simp)); (try simp only [Act.put, List.setIfInBounds_toArray, List.set_cons_zero, List.set_cons_succ]))
      repeat (first | (refine seqV_run (v := ?_) rfl (fun u hu => ?_) ?_; rotate_left; (focus (have d3 := cell_of ((HS2.out.trans hu).get B3.out id); have d1 := cell_of ((HS2.out.trans hu).get B1.out id); clear hu; go_simp; first | done | with_reducible rfl)); (try simp only [Act.put, List.setIfInBounds_toArray, List.set_cons_zero, List.set_cons_succ])) | (refine seqV_no rfl ?_; (try simp only [Act.put, List.setIfInBounds_toArray, List.set_cons_zero, List.set_cons_succ])))
      refine seqV_nil ?_
      refine chainS_new insV (Z := #[.int .u32 k1, .int .u32 k2]) (t := 31) rfl (fun u u' h k => h.trans k) (fun u hu hp => by simp only [insV]; clear hu hp; go_simp) (fun b => ?_)
      (try simp only [Act.put, List.setIfInBounds_toArray, List.set_cons_zero, List.set_cons_succ])
      (try simp only [insV])
      refine chainS_call (f := 24) (args := #[(.pointer (some ⟨w.heap.size + 1, 0, none⟩)), .slice (some ⟨b, 0, none⟩) 1 1]) (fun v _ => v = .slice none 0 0) rfl (fun v u u' h _ => h) (fun u hu hp => by clear hu hp; go_simp) (fun u hu hp => (ch_dropped u (.pointer (some ⟨w.heap.size + 1, 0, none⟩)) _ (HN.out _ (HS2.out.trans hu))).mono (by rintro _ _ ⟨rfl, hk⟩; exact ⟨_, rfl, hu.trans hk, rfl⟩)) (fun v hv => ?_)
      obtain ⟨_, _, rfl⟩ := hv
      (try simp only [Act.put, List.setIfInBounds_toArray, List.set_cons_zero, List.set_cons_succ])
      refine chainS_nil ?_
      repeat (first | (refine seqV_run (v := ?_) rfl (fun u hu => ?_) ?_; rotate_left; (focus (have d2 := cell_of (hu.get R2.out id); have d3 := cell_of ((HS2.out.trans hu).get B3.out id); clear hu; go_simp; first | done | with_reducible rfl)); (try simp only [Act.put, List.setIfInBounds_toArray, List.set_cons_zero, List.set_cons_succ])) | (refine seqV_no rfl ?_; (try simp only [Act.put, List.setIfInBounds_toArray, List.set_cons_zero, List.set_cons_succ])))
      (refine seqV_call (f := 25) (args := #[(.pointer (some ⟨w.heap.size + 1, 0, none⟩))]) (v := .slice none 0 0) rfl (fun u hu => ?_) (fun u hu => (ch_links u (.pointer (some ⟨w.heap.size + 1, 0, none⟩)) (HN.out _ (HS2.out.trans hu))).mono (by rintro _ _ ⟨rfl, rfl⟩; exact ⟨rfl, Keeps.refl _ _⟩)) ?_; (focus (clear hu; go_simp)); (try simp only [Act.put, List.setIfInBounds_toArray, List.set_cons_zero, List.set_cons_succ]))
      repeat (first | (refine seqV_run (v := ?_) rfl (fun u hu => ?_) ?_; rotate_left; (focus (clear hu; go_simp; first | done | with_reducible rfl)); (try simp only [Act.put, List.setIfInBounds_toArray, List.set_cons_zero, List.set_cons_succ])) | (refine seqV_no rfl ?_; (try simp only [Act.put, List.setIfInBounds_toArray, List.set_cons_zero, List.set_cons_succ])))
      refine seqV_nil ?_
      refine tailR_zero fun u9 hu _ => ?_
      (try simp only [Act.put, List.setIfInBounds_toArray, List.set_cons_zero, List.set_cons_succ])
      have HS9 := hidE (HS2.out.trans hu)
      clear hu
      go_wp2_with fail
      exact ⟨⟨1 + 1, by omega, by simp, HS9.out⟩, by simp only [intOf]; omega⟩
    · go_wp2_with fail
      refine (new_ram _ 1 (by omega) (by omega)).mono ?_
      rintro _ w1 ⟨R, rfl, hn, -, hR, hk1, -, -, hA⟩
      have HR := hidE hR
      have HK1 := hidE (HK0.out.trans (HS.out.trans hk1))
      clear hR hk1
      go_wp2_with fail
      refine (ch_new_no w1 R _ HR.out).mono ?_
      rintro _ w2 ⟨rfl, rfl⟩
      go_wp2_with fail
      refine (cs_new _ R _ HR.out 0 (by omega) (by omega)).mono ?_
      rintro _ w3 ⟨cb, V, rfl, -, hk3, -⟩
      have HK3 := hidE (HK1.out.trans hk3)
      clear hk3 HR HK1
      go_wp2_with fail
      refine (ch_new_nil w3 _).mono ?_
      rintro _ w4 ⟨rfl, rfl⟩
      go_wp2_with fail
      refine (works23 w3).mono ?_
      rintro _ w5 ⟨rfl, hk⟩
      have HS2 := hidE (HK3.out.trans hk)
      clear hk
      go_wp2
      go_ret
      exact ⟨rfl, HS2.out⟩
theorem chainNone_walk (w : World) (x0 : Int) (_h0 : RdV Tryz.prog w 3 [.int .i64 x0]) (s1 : Array Value) (h1 : RdV Tryz.prog w 31 s1.toList) :
    Calls Tryz.prog 5 #[.int .i64 x0, .agg s1] w fun e w' => e = .returned (.bool true) ∧ Below w.heap.size w w' := by
  obtain ⟨k1, k2, e, -⟩ := key_open h1
  have e' : s1 = #[.int .u32 k1, .int .u32 k2] := by rw [← Array.toArray_toList (xs := s1), e]
  subst e'
  exact (chainNone_any w x0 k1 k2).mono fun e w' h => ⟨h.1, same_below h.2⟩
end Go.Proofs.YtomphgpplbekiaaGreat
