/- The document's cache. The document's cache: Find. The document's rows: Find, Exits. The document's cache: Put. The document's cache: Put, of a block that may be. The document's cache: Out. The document's cache: Asks, At. The document's cache: At. -/
import Derived.Test.YtomphgpplbekiaaGreatCnO
import Derived.Test.YtomphgpplbekiaaGreatCmpC
namespace Go.Proofs.YtomphgpplbekiaaGreat
open Go.RowKit
attribute [local go_sem ↓] Go.wp_at_zero Go.wp_at_succ

def refA (Vb : Value) (l : List Fb) (sz : Int) : Array Value := #[Vb, .int .i64 (usedL (pl l) : Nat), .int .i64 ((ownL (pl l)).length : Nat), .int .i64 sz]
/-- The document's cache: its block and its rows. -/
structure IsRef (w : World) (N rb : Nat) (Vb : Value) (l : List Fb) (sz : Int) : Prop where
  hb : w.heap[rb]? = some (.cells (refA Vb l sz) 56 (0, 0))
  bl : RowX w N 62 8 Vb (l.map fbR)
  fb : ∀ x ∈ l, FbOk w x
  ro : ∀ x ∈ l, ∀ k, ROk x k → k ≠ rb ∧ some k ≠ Vb.ownBlock
  far : N ≤ rb
section
variable {w w' : World} {N rb : Nat} {Vb : Value} {l : List Fb} {sz : Int}
theorem IsRef.keeps {F : Nat → Prop} (h : IsRef w N rb Vb l sz) (k : Keeps F w w') (h1 : ¬ F rb) (h2 : ∀ g, some g = Vb.ownBlock → ¬ F g) (h3 : ∀ x ∈ l, ∀ k, ROk x k → ¬ F k) : IsRef w' N rb Vb l sz :=
  ⟨k.get h.hb h1, h.bl.keeps k h2, fun x hx => (h.fb x hx).keeps k (h3 x hx), h.ro, h.far⟩
theorem IsRef.same (h : IsRef w N rb Vb l sz) (k : Same w w') : IsRef w' N rb Vb l sz := h.keeps k id (fun _ _ => id) (fun _ _ _ _ => id)
theorem IsRef.c (h : IsRef w N rb Vb l sz) (o : Nat) : w.cell? ⟨rb, o, none⟩ = (refA Vb l sz)[o]? := cell_of h.hb o
theorem IsRef.fz (h : IsRef w N rb Vb l sz) (o : Nat) : w.frozen? ⟨rb, o, none⟩ = false := frozen_of h.hb o
theorem IsRef.sl (h : IsRef w N rb Vb l sz) : ∃ p c, Vb = .slice p l.length c := by
  have := h.bl.sl
  simpa using this
theorem IsRef.bk (h : IsRef w N rb Vb l sz) {j : Nat} {x : Fb} (hj : l[j]? = some x) : ∃ g cap, Vb = .slice (some ⟨g, 0, none⟩) l.length cap ∧ l.length ≤ cap ∧ cap ≤ maxLen ∧ (∀ i v, (fbR x)[i]? = some v → w.cell? ⟨g, j * 8 + i, none⟩ = some v) := by
  obtain ⟨g, cap, e, h1, h2, -, -, h3, -⟩ := h.bl.at_ (j := j) (c := fbR x) (by simp [hj])
  exact ⟨g, cap, by simpa using e, by simpa using h1, h2, h3⟩
def blockV (x : Fb) : Value := .agg #[.int .u32 x.1.k1, .int .u32 x.1.k2, .int .i64 x.1.pos, x.2.bv, x.2.rv, x.2.fv, .int .i64 x.1.fin, .bool x.1.live]
def blockZ : Array Value := #[.int .u32 0, .int .u32 0, .int .i64 0, .slice none 0 0, .slice none 0 0, .slice none 0 0, .int .i64 0, .bool false]
def refFindV (l : List Fb) (k : Int × Int) : Value := match idxL (pl l) k with
  | some j => (match l[j]? with | some x => .tuple #[blockV x, .bool true] | none => .tuple #[.agg blockZ, .bool false])
  | none => .tuple #[.agg blockZ, .bool false]
theorem rf_flush (h : IsRef w N rb Vb l sz) : Calls Tryz.prog 42 #[.pointer (some ⟨rb, 0, none⟩)] w fun e w' => e = .returned (.tuple #[]) ∧ IsRef w' N rb (.slice none 0 0) [] sz ∧ Keeps (fun k => k = rb) w w' := by
  have c0 := h.c 0
  have f0 := h.fz 0
  have c1 := h.c 1
  have f1 := h.fz 1
  have c2 := h.c 2
  have f2 := h.fz 2
  simp only [refA] at c0 c1 c2
  have HH := hidE h
  clear h
  go_enter Tryz.func42, Tryz.ntmps42
  go_wp2
  go_end0
  have hb := block_set (block_set (block_set HH.out.hb 0 (.slice none 0 0)) 1 (.int .i64 0)) 2 (.int .i64 0)
  have k1 := (((Keeps.refl (fun k => k = rb) w).setCell (p := ⟨rb, 0, none⟩) (fun _ => rfl) (.slice none 0 0)).setCell (p := ⟨rb, 1, none⟩) (fun _ => rfl) (.int .i64 0)).setCell (p := ⟨rb, 2, none⟩) (fun _ => rfl) (.int .i64 0)
  exact ⟨rfl, ⟨hb, RowX.nil, by simp, by simp, HH.out.far⟩, k1⟩
end
end Go.Proofs.YtomphgpplbekiaaGreat
namespace Go.Proofs.YtomphgpplbekiaaGreat
open Go.RowKit
attribute [local go_sem ↓] Go.wp_at_zero Go.wp_at_succ

theorem x_ldRb (ρ : Operand → Value) (dst : Option Tmp) (x : Operand) (ty : TypeId) (pos : String) (after : Array Edge) (guard : Option (Nat × Bool)) :
    execOp ρ { dst, op := .load 62 x, type := ty, pos, after, guard } = ldRow 62 (ρ x) := rfl
theorem idx_hit {L : List Fp} {k : Int × Int} {j : Nat} {f : Fp} (h : L[j]? = some f) (hf : hitB k f = true) (hn : ∀ (i : Nat) (g : Fp), L[i]? = some g → i < j → hitB k g = false) : idxL L k = some j := by
  unfold idxL
  rw [List.findIdx?_eq_some_iff_getElem]
  have hlt := (List.getElem?_eq_some_iff.1 h).1
  refine ⟨hlt, by rw [(List.getElem?_eq_some_iff.1 h).2]; exact hf, fun i hi => ?_⟩
  have := hn i L[i] (List.getElem?_eq_getElem (by omega)) hi
  simp [this]
theorem idx_no {L : List Fp} {k : Int × Int} (hn : ∀ (i : Nat) (g : Fp), L[i]? = some g → hitB k g = false) : idxL L k = none := by
  unfold idxL
  rw [List.findIdx?_eq_none_iff]
  intro x hx
  obtain ⟨i, hi, rfl⟩ := List.getElem_of_mem hx
  exact hn i _ (List.getElem?_eq_getElem hi)
section
variable {w w' : World} {N rb : Nat} {Vb : Value} {l : List Fb} {sz : Int}
attribute [local go_sem ↓] x_stKy x_stRw x_stLd x_stOu x_stRb x_stCd x_stBk x_stLk
attribute [local go_sem] st_Ky st_Rw st_Ld st_Ou st_Rb st_Cd st_Bk st_Lk ne_s1 en_s1 ne_s2 en_s2 ne_s3 en_s3 ne_s4 en_s4 ne_s5 en_s5 ne_s6 en_s6 ne_s7 en_s7 ne_s8 en_s8 lt_s2 lt_s3 lt_s4 lt_s5 lt_s6 lt_s7 lt_s8 rowAt_at rowAt_old rowAt_drew rowAt_drewN setRow_drew setRow_at setRow_old setRow_setRow rowAt_setRow_eq rowAt_setRow_ne cell_setRow_eq cell_setRow_ne frozen_setRow_eq frozen_setRow_ne ones_lit oc_int oc_bool oc_str oc_ptr oc_sl oc_map oc_fn oc_nf oc_ni oc_if
attribute [local go_sem ↓] x_neKy x_neRw x_neOu x_eqKy x_eqRw x_eqOu
attribute [local go_sem] ne_Ky ne_Rw ne_Ou eq_Ky eq_Rw eq_Ou
attribute [local go_sem ↓] x_ldRb
set_option maxRecDepth 100000 in
set_option maxHeartbeats 4000000 in
theorem rf_find (h : IsRef w N rb Vb l sz) (hll : l.length ≤ 10000) (k1 k2 : Int) :
    Calls Tryz.prog 30 #[.pointer (some ⟨rb, 0, none⟩), .agg #[.int .u32 k1, .int .u32 k2]] w fun e w' => e = .returned (refFindV l (k1, k2)) ∧ Same w w' := by
  obtain ⟨p, c, ebl⟩ := h.sl
  obtain ⟨W, hW⟩ : ∃ W, (w.alloc (.cells #[.int .u32 k1, .int .u32 k2] 31)).alloc (.cells blockZ 62) = W := ⟨_, rfl⟩
  have B0 : Hid (W.heap[w.heap.size]? = some (.cells #[.int .u32 k1, .int .u32 k2] 31 (0, 0))) := hidE (by rw [← hW]; exact block_old _ (block_new _ _))
  have B1 : Hid (W.heap[w.heap.size + 1]? = some (.cells blockZ 62 (0, 0))) := hidE (by rw [← hW]; exact block_atR _ (by simp))
  have HK0 : Hid (Same w W) := hidE (by rw [← hW]; exact ((Keeps.refl _ _).alloc _).alloc _)
  have HH := hidE (h.same HK0.out)
  clear h
  simp only [blockZ] at *
  go_enter Tryz.func30, Tryz.ntmps30
  go_wp2_with fail
  try rw [hW]
  clear hW
  go_loopw [6] (fun t6 wr => ∃ j : Nat, j ≤ l.length ∧ t6 = .int .i64 (j : Int) ∧ (∀ i g, (pl l)[i]? = some g → i < j → hitB (k1, k2) g = false) ∧ Same W wr) (fun t6 _ => (l.length - intOf t6).toNat)
  case atStart => exact ⟨0, by omega, rfl, fun i g _ hi => absurd hi (by omega), Keeps.refl _ _⟩
  case round =>
    obtain ⟨j, hj, rfl, hn, hs⟩ := hrel
    have HW := hidE hs
    have HNH := hidE hn
    clear hs hn
    have d0 := (HH.out.same HW.out).c 0
    simp only [refA, ebl] at d0
    by_cases hlt : j < l.length
    · have q0 : decide ((j : Int) < (l.length : Int)) = true := decide_eq_true (by omega)
      have q1 : (j : Int) < (l.length : Int) := by omega
      have q2 : (0 : Int) ≤ (j : Int) := by omega
      have e1 := wrapI ((j : Int) + 1) (by omega) (by omega)
      obtain ⟨x, hx⟩ : ∃ x, l[j]? = some x := ⟨_, List.getElem?_eq_getElem hlt⟩
      have hplx : (pl l)[j]? = some x.1 := by simp [pl, hx]
      obtain ⟨g, cap, e, n1, n2, hc⟩ := HH.out.bk hx
      rw [ebl] at e
      cases e
      have HC := hidE hc
      clear hc
      obtain ⟨o1, o2, o3⟩ := (HH.out.fb x (List.mem_of_getElem? hx)).ones
      have HWW := hidE (HK0.out.trans HW.out)
      have HHR := hidE (HH.out.same HW.out)
      have HC' := hidE (fun (u : World) (hu : Same wr u) i v hv => cell_same1 (HW.out.trans hu) (HC.out i v hv))
      by_cases hh : hitB (k1, k2) x.1 = true
      · have hl : x.1.live = true := by simp [hitB] at hh; exact hh.1
        have e2 : x.1.k1 = k1 := by simp [hitB] at hh; exact hh.2.1
        have e3 : x.1.k2 = k2 := by simp [hitB] at hh; exact hh.2.2
        have HV : Hid (refFindV l (k1, k2) = .tuple #[blockV x, .bool true]) := hidE (by
          unfold refFindV
          rw [idx_hit hplx hh HNH.out]
          simp only [hx])
        have s2 := same2_self k1 k2
        go_wp2_with fail
        refine wp_region_ra [0, 1, 2, 3, 4, 5, 6, 7, 8, 9, 10, 11, 12, 13, 14, 15, 16, 17, 18, 19] [] 0 (Same _) (by kernel_rfl) (by kernel_rfl) (fun u u' h k => Keeps.trans h k) (Keeps.refl _ _).drew ?_; simp only [opsOf, List.filterMap_cons, List.filterMap_nil, List.getElem?_cons_zero, List.getElem?_cons_succ]
        repeat (first | (refine seqV_run (v := ?_) rfl (fun u hu => ?_) ?_; rotate_left; (focus (have d1 := (HHR.out.same hu).c 0; have d2 := cell_of (hu.get (HW.out.get B0.out id) id); have d3 := HC'.out u hu 7 _ rfl; have d4 := HC'.out u hu 0 _ rfl; have d5 := HC'.out u hu 1 _ rfl; simp only [refA, ebl, hl, e2, e3, Nat.add_zero] at d1 d3 d4 d5; clear hu; go_simp; first | done | with_reducible rfl)); (try simp only [Act.put, List.setIfInBounds_toArray, List.set_cons_zero, List.set_cons_succ])) | (refine seqV_no rfl ?_; (try simp only [Act.put, List.setIfInBounds_toArray, List.set_cons_zero, List.set_cons_succ])))
        refine seqV_nil ?_
        refine tailR_zero fun u5 hu _ => ?_
        (try simp only [Act.put, List.setIfInBounds_toArray, List.set_cons_zero, List.set_cons_succ])
        have d9 := (HHR.out.same hu).c 0
        simp only [refA, ebl] at d9
        have r1 := rowAt_of (hu.get (HW.out.get B1.out id) id)
        have l1 := lt_of_block (hu.get (HW.out.get B1.out id) id)
        have hld := ld_at (P := Tryz.prog) (w := u5) (t := 62) (g := g) (o := j * 8) Tryz.underlying62 rfl infoRb (c := fbR x) rfl (fun i v hv => HC'.out u5 hu i v hv)
        simp only [fbR, hl] at hld
        have HK5 := hidE (HWW.out.trans hu)
        clear hu d0
        go_wp2
        refine post_row1 (v := .bool true) (A := #[.int .u32 x.1.k1, .int .u32 x.1.k2, .int .i64 x.1.pos, x.2.bv, x.2.rv, x.2.fv, .int .i64 x.1.fin, .bool true]) rfl Tryz.underlying62 rfl infoRb rfl rfl rfl (by go_simp) rfl ?_
        rw [HV.out]
        refine ⟨by simp [blockV, hl], HK5.out.setRow (fun h => absurd h (by omega)) _⟩
      · have hf : hitB (k1, k2) x.1 = false := by simpa using hh
        have hstep : ∀ (i : Nat) (f : Fp), (pl l)[i]? = some f → i < j + 1 → hitB (k1, k2) f = false := fun i f hi hlt' => by
          rcases Nat.lt_or_eq_of_le (Nat.le_of_lt_succ hlt') with h9 | h9
          · exact HNH.out i f hi h9
          · subst h9
            rw [hplx] at hi
            cases hi
            exact hf
        have HST := hidE hstep
        clear hstep
        cases hl : x.1.live with
        | false =>
          go_wp2_with fail
          refine wp_region_ra [0, 1, 2, 3, 4, 5, 6, 7, 8, 9, 10, 11, 12, 13, 14, 15, 16, 17, 18, 19] [] 0 (Same _) (by kernel_rfl) (by kernel_rfl) (fun u u' h k => Keeps.trans h k) (Keeps.refl _ _).drew ?_; simp only [opsOf, List.filterMap_cons, List.filterMap_nil, List.getElem?_cons_zero, List.getElem?_cons_succ]
          repeat (first | (refine seqV_run (v := ?_) rfl (fun u hu => ?_) ?_; rotate_left; (focus (have d1 := (HHR.out.same hu).c 0; have d2 := cell_of (hu.get (HW.out.get B0.out id) id); have d3 := HC'.out u hu 7 _ rfl; simp only [refA, ebl, hl] at d1 d3; clear hu; go_simp; first | done | with_reducible rfl)); (try simp only [Act.put, List.setIfInBounds_toArray, List.set_cons_zero, List.set_cons_succ])) | (refine seqV_no rfl ?_; (try simp only [Act.put, List.setIfInBounds_toArray, List.set_cons_zero, List.set_cons_succ])))
          refine seqV_nil ?_
          refine tailR_zero fun u5 hu _ => ?_
          (try simp only [Act.put, List.setIfInBounds_toArray, List.set_cons_zero, List.set_cons_succ])
          have HK5 := hidE (HW.out.trans hu)
          clear hu d0
          go_wp2_with fail
          exact ⟨⟨j + 1, by omega, by simp, HST.out, HK5.out⟩, by simp only [intOf]; omega⟩
        | true =>
          have s2 : same2 x.1.k1 x.1.k2 k1 k2 = false := by simpa [hitB, hl, same2] using hf
          go_wp2_with fail
          refine wp_region_ra [0, 1, 2, 3, 4, 5, 6, 7, 8, 9, 10, 11, 12, 13, 14, 15, 16, 17, 18, 19] [] 0 (Same _) (by kernel_rfl) (by kernel_rfl) (fun u u' h k => Keeps.trans h k) (Keeps.refl _ _).drew ?_; simp only [opsOf, List.filterMap_cons, List.filterMap_nil, List.getElem?_cons_zero, List.getElem?_cons_succ]
          repeat (first | (refine seqV_run (v := ?_) rfl (fun u hu => ?_) ?_; rotate_left; (focus (have d1 := (HHR.out.same hu).c 0; have d2 := cell_of (hu.get (HW.out.get B0.out id) id); have d3 := HC'.out u hu 7 _ rfl; have d4 := HC'.out u hu 0 _ rfl; have d5 := HC'.out u hu 1 _ rfl; simp only [refA, ebl, hl, Nat.add_zero] at d1 d3 d4 d5; clear hu; go_simp; first | done | with_reducible rfl)); (try simp only [Act.put, List.setIfInBounds_toArray, List.set_cons_zero, List.set_cons_succ])) | (refine seqV_no rfl ?_; (try simp only [Act.put, List.setIfInBounds_toArray, List.set_cons_zero, List.set_cons_succ])))
          refine seqV_nil ?_
          refine tailR_zero fun u5 hu _ => ?_
          (try simp only [Act.put, List.setIfInBounds_toArray, List.set_cons_zero, List.set_cons_succ])
          have HK5 := hidE (HW.out.trans hu)
          clear hu d0
          go_wp2_with fail
          exact ⟨⟨j + 1, by omega, by simp, HST.out, HK5.out⟩, by simp only [intOf]; omega⟩
    · obtain rfl : j = l.length := by omega
      have q0 : decide ((l.length : Int) < (l.length : Int)) = false := by simp
      have r1 := rowAt_of (HW.out.get B1.out id)
      have l1 := lt_of_block (HW.out.get B1.out id)
      have HV : Hid (refFindV l (k1, k2) = .tuple #[.agg #[.int .u32 0, .int .u32 0, .int .i64 0, .slice none 0 0, .slice none 0 0, .slice none 0 0, .int .i64 0, .bool false], .bool false]) := hidE (by
        unfold refFindV
        rw [idx_no fun i g hg => HNH.out i g hg (by have := (List.getElem?_eq_some_iff.1 hg).1; simpa [pl] using this)]
        rfl)
      go_wp2
      refine post_row1 (v := .bool false) rfl Tryz.underlying62 rfl infoRb rfl rfl rfl (by go_simp; rfl) rfl ?_
      rw [HV.out]
      exact ⟨rfl, (HK0.out.trans HW.out).setRow (fun h => absurd h (by omega)) _⟩
end
end Go.Proofs.YtomphgpplbekiaaGreat
namespace Go.Proofs.YtomphgpplbekiaaGreat
open Go.RowKit
attribute [local go_sem ↓] Go.wp_at_zero Go.wp_at_succ
section
attribute [local go_sem ↓] x_stKy x_stRw x_stLd x_stOu x_stRb x_stCd x_stBk x_stLk
attribute [local go_sem] st_Ky st_Rw st_Ld st_Ou st_Rb st_Cd st_Bk st_Lk ne_s1 en_s1 ne_s2 en_s2 ne_s3 en_s3 ne_s4 en_s4 ne_s5 en_s5 ne_s6 en_s6 ne_s7 en_s7 ne_s8 en_s8 lt_s2 lt_s3 lt_s4 lt_s5 lt_s6 lt_s7 lt_s8 rowAt_at rowAt_old rowAt_drew rowAt_drewN setRow_drew setRow_at setRow_old setRow_setRow rowAt_setRow_eq rowAt_setRow_ne cell_setRow_eq cell_setRow_ne frozen_setRow_eq frozen_setRow_ne ones_lit oc_int oc_bool oc_str oc_ptr oc_sl oc_map oc_fn oc_nf oc_ni oc_if
set_option maxRecDepth 100000 in
theorem r21_find (w : World) (B : Nat) (v : Value) (rs : List Rw) (h : RowR w B v rs) (hl : rs.length ≤ 100000) (off : Int) :
    Calls Tryz.prog 78 #[v, .int .i64 off] w fun e w' => e = .returned (findV rs off) ∧ Same w w' := by
  have k0 := (Keeps.refl (fun _ => False) w).alloc (.cells rowZ 49)
  have HR := hidE (owns_apart h k0 (fun _ _ => id))
  have HB0 := hidE (block_new w (.cells rowZ 49))
  have HK0 := hidE k0
  obtain ⟨p, c, rfl⟩ := owns_slice h
  clear h k0
  simp only [rowZ] at *
  obtain ⟨W, hW⟩ : ∃ W, w.alloc (.cells #[.int .i64 0, .int .u32 0, .int .i64 0, .int .i64 0] 49) = W := ⟨_, rfl⟩
  rw [hW] at HR HB0 HK0
  go_enter Tryz.func78, Tryz.ntmps78
  go_wp2_with fail
  try rw [hW]
  clear hW
  go_loopw [6] (fun t6 wr => ∃ k : Nat, k ≤ rs.length ∧ t6 = .int .i64 (k : Int) ∧ (rs.take k).find? (fun r => r.off == off) = none ∧ W = wr) (fun t6 _ => (rs.length - intOf t6).toNat)
  case atStart => exact ⟨0, by omega, rfl, by simp, rfl⟩
  case round =>
    obtain ⟨k, hk, rfl, hn, rfl⟩ := hrel
    have r0 := rowAt_of HB0.out
    have l0 := lt_of_block HB0.out
    by_cases hlt : k < rs.length
    · have q0 : decide ((k : Int) < (rs.length : Int)) = true := decide_eq_true (by omega)
      have q1 : (k : Int) < (rs.length : Int) := by omega
      have q2 : (0 : Int) ≤ (k : Int) := by omega
      have e1 := wrapI ((k : Int) + 1) (by omega) (by omega)
      obtain ⟨r, hr⟩ : ∃ r, rs[k]? = some r := ⟨_, List.getElem?_eq_getElem hlt⟩
      have hst := find_step (p := fun r => r.off == off) hr hn
      obtain ⟨g, c2, e, n1, hc⟩ := rowsR_cells HR.out hr
      cases e
      have a0 := hc 0 _ rfl
      have a1 := hc 1 _ rfl
      have a2 := hc 2 _ rfl
      have a3 := hc 3 _ rfl
      simp only [Nat.add_zero] at a0
      have HST := hidE hst
      clear hc hr hst
      by_cases he : r.off = off
      · subst he
        have s0 : (r.off == r.off) = true := beq_self_eq_true _
        have HV : Hid (findV rs r.off = .tuple #[rwV r, .bool true]) := hidE (by unfold findV; rw [HST.out.1 s0])
        go_wp2
        refine post_row1 (v := .bool true) rfl Tryz.underlying49 rfl infoRw rfl rfl rfl (by go_simp; rfl) rfl ?_
        rw [HV.out]
        exact ⟨rfl, HK0.out.setRow (fun h => absurd h (Nat.lt_irrefl _)) _⟩
      · have s0 : (r.off == off) = false := beq_eq_false_iff_ne.2 he
        go_wp2_with fail
        exact ⟨⟨k + 1, by omega, by simp, HST.out.2 s0, trivial⟩, by simp only [intOf]; omega⟩
    · obtain rfl : k = rs.length := by omega
      have q0 : decide ((rs.length : Int) < (rs.length : Int)) = false := by simp
      rw [List.take_length] at hn
      have HV : Hid (findV rs off = .tuple #[.agg rowZ, .bool false]) := hidE (by unfold findV; rw [hn])
      go_wp2
      refine post_row1 (v := .bool false) rfl Tryz.underlying49 rfl infoRw rfl rfl rfl (by go_simp; rfl) rfl ?_
      rw [HV.out]
      exact ⟨rfl, HK0.out.setRow (fun h => absurd h (Nat.lt_irrefl _)) _⟩
set_option maxRecDepth 100000 in
set_option maxHeartbeats 1000000 in
theorem r21_exits (w : World) (B : Nat) (v : Value) (rs : List Rw) (h : RowR w B v rs) (hl : rs.length ≤ 5000) :
    Calls Tryz.prog 77 #[v] w fun e w' => ∃ v', e = .returned v' ∧ RowR w' w.heap.size v' (exL rs) ∧ Same w w' := by
  obtain ⟨p, c, rfl⟩ := owns_slice h
  have HR := hidE h
  clear h
  go_enter Tryz.func77, Tryz.ntmps77
  go_wp2_with fail
  go_loopw [3, 4] (fun t3 t4 wr => ∃ (k : Nat) (v' : Value), k ≤ rs.length ∧ t4 = .int .i64 (k : Int) ∧ t3 = v' ∧ RowR wr w.heap.size v' (exL (rs.take k)) ∧ Same w wr) (fun _ t4 _ => (rs.length - intOf t4).toNat)
  case atStart => exact ⟨0, _, by omega, rfl, rfl, World.ownsRow_nil _ _ _ _, Keeps.refl _ _⟩
  case round =>
    obtain ⟨k, v', hk, rfl, rfl, h1, h2⟩ := hrel
    have HW := hidE h2
    have HV := hidE h1
    obtain ⟨p', c', rfl⟩ := owns_slice h1
    clear h1 h2
    by_cases hlt : k < rs.length
    · have q0 : decide ((k : Int) < (rs.length : Int)) = true := decide_eq_true (by omega)
      have q1 : (k : Int) < (rs.length : Int) := by omega
      have q3 : (0 : Int) ≤ (k : Int) := by omega
      have e1 := wrapI ((k : Int) + 1) (by omega) (by omega)
      obtain ⟨r, hr⟩ : ∃ r, rs[k]? = some r := ⟨_, List.getElem?_eq_getElem hlt⟩
      have het : rs.take (k + 1) = rs.take k ++ [r] := by rw [List.take_add_one, hr]; rfl
      obtain ⟨g, c2, e, n1, hc⟩ := rowsR_cells (owns_apart HR.out HW.out (fun _ _ => id)) hr
      cases e
      have a0 := hc 0 _ rfl
      have a1 := hc 1 _ rfl
      have a2 := hc 2 _ rfl
      have a3 := hc 3 _ rfl
      simp only [Nat.add_zero] at a0
      clear hc
      by_cases hx : 0 ≤ r.ex
      · have q2 : decide (0 ≤ r.ex) = true := decide_eq_true hx
        have hlen := exL_le (rs.take k)
        rw [List.length_take] at hlen
        have hz2 := HW.out.size
        obtain ⟨g2, cap2, w2, hr2, h3, h4⟩ := rowR_push HV.out r (by omega) (by omega)
        have H3 := hidE h3
        have H4 := hidE (same_then HW.out h4 (fun k e => ((rowX_of HV.out).lt k e).1))
        clear h3 h4 hz2 hlen
        go_wp2_with (at_builtin; refine wpList_app rfl (.tmp 17) (.tmp 22) 58 rfl rfl rfl hr2 ?_; clear hr2)
        refine ⟨⟨k + 1, _, by omega, by simp, rfl, ?_, H4.out⟩, by simp only [intOf]; omega⟩
        rw [het, exL_snoc, if_pos hx]
        exact H3.out
      · have q2 : decide (0 ≤ r.ex) = false := decide_eq_false hx
        go_wp2_with fail
        refine ⟨⟨k + 1, _, by omega, by simp, rfl, ?_, HW.out⟩, by simp only [intOf]; omega⟩
        rw [het, exL_snoc, if_neg (by omega), List.append_nil]
        exact HV.out
    · obtain rfl : k = rs.length := by omega
      have q0 : decide ((rs.length : Int) < (rs.length : Int)) = false := by simp
      go_wp2
      go_ret
      exact ⟨_, rfl, by simpa using HV.out, HW.out⟩
end
end Go.Proofs.YtomphgpplbekiaaGreat
namespace Go.Proofs.YtomphgpplbekiaaGreat
open Go.RowKit
attribute [local go_sem ↓] Go.wp_at_zero Go.wp_at_succ

/-- What the document's cache writes. -/
def RW (rb : Nat) (Vb : Value) (k : Nat) : Prop := k = rb ∨ some k = Vb.ownBlock
def rA (Vb : Value) (us ex sz : Int) : Array Value := #[Vb, .int .i64 us, .int .i64 ex, .int .i64 sz]
structure IsR (w : World) (N rb : Nat) (Vb : Value) (l : List Fb) (us ex sz : Int) : Prop where
  hb : w.heap[rb]? = some (.cells (rA Vb us ex sz) 56 (0, 0))
  bl : RowX w N 62 8 Vb (l.map fbR)
  fb : ∀ x ∈ l, FbOk w x
  ro : ∀ x ∈ l, ∀ k, ROk x k → ¬ RW rb Vb k
  far : N ≤ rb
def RPutP (w : World) (N rb : Nat) (Vb : Value) (l : List Fb) (sz : Int) (k : Int × Int) (b : Bk) (xs : List Int) (e : Ending) (w' : World) : Prop :=
  if (idxL (pl l) k).isSome ∨ mayBlk b = false then e = .returned (.tuple #[.int .i64 0, .int .i64 2]) ∧ IsRef w' N rb Vb l sz ∧ Same w w'
  else if ((usedL (pl l) + (trC b ((ownL (pl l)).length : Nat)).1.length : Nat) : Int) ≤ sz then ∃ Vb' v, e = .returned (.tuple #[.int .i64 (usedL (pl l) : Nat), .int .i64 0]) ∧ IsRef w' N rb Vb' (l ++ [(fpOf (pl l) k b xs, v)]) sz ∧ Keeps (RW rb Vb) w w' ∧ (∀ g, RW rb Vb' g → RW rb Vb g ∨ w.heap.size ≤ g) ∧ (∀ g, ROk (fpOf (pl l) k b xs, v) g → w.heap.size ≤ g ∨ (xs ≠ [] ∧ some g = b.fr.ownBlock))
  else e = .returned (.tuple #[.int .i64 0, .int .i64 5]) ∧ IsRef w' N rb Vb l sz ∧ Same w w'
def RTrV (B : Nat) (TC : Cd) (x : Value) (u : World) : Prop := ∃ bv rv, x = .agg #[bv, rv] ∧ RowB u B bv TC.1 ∧ RowR u B rv TC.2
theorem RTrV.stable (B : Nat) (TC : Cd) (x : Value) (u u' : World) (h : RTrV B TC x u) (k : Same u u') : RTrV B TC x u' := by
  obtain ⟨bv, rv, rfl, h1, h2⟩ := h
  exact ⟨bv, rv, rfl, owns_apart h1 k (fun _ _ => id), owns_apart h2 k (fun _ _ => id)⟩
theorem RTrV.out {B : Nat} {TC : Cd} {bv rv : Value} {u : World} (h : RTrV B TC (.agg #[bv, rv]) u) : RowB u B bv TC.1 ∧ RowR u B rv TC.2 := by
  obtain ⟨bv', rv', e, h1, h2⟩ := h
  simp at e
  obtain ⟨rfl, rfl⟩ := e
  exact ⟨h1, h2⟩
section
variable {w w' : World} {N rb : Nat} {Vb : Value} {l : List Fb} {us ex sz : Int}
theorem IsRef.r_ (h : IsRef w N rb Vb l sz) : IsR w N rb Vb l (usedL (pl l) : Nat) ((ownL (pl l)).length : Nat) sz := ⟨h.hb, h.bl, h.fb, fun x hx k hk e => by
  rcases e with e | e
  · exact (h.ro x hx k hk).1 e
  · exact (h.ro x hx k hk).2 e, h.far⟩
theorem IsR.done (h : IsR w N rb Vb l us ex sz) (h1 : us = (usedL (pl l) : Nat)) (h2 : ex = ((ownL (pl l)).length : Nat)) : IsRef w N rb Vb l sz := by
  subst h1 h2
  exact ⟨h.hb, h.bl, h.fb, fun x hx k hk => ⟨fun e => h.ro x hx k hk (.inl e), fun e => h.ro x hx k hk (.inr e)⟩, h.far⟩
theorem IsR.lt (h : IsR w N rb Vb l us ex sz) : ∀ k, RW rb Vb k → N ≤ k ∧ k < w.heap.size := fun k hk => by
  rcases hk with rfl | hk
  · exact ⟨h.far, lt_of_block h.hb⟩
  · exact h.bl.lt k hk
theorem IsR.tg_ (h : IsR w N rb Vb l us ex sz) : tg w rb = some (some 56) ∧ ∀ k, some k = Vb.ownBlock → tg w k = some (some 62) := ⟨tg_cells h.hb, tg_own h.bl.own⟩
theorem IsR.keeps {F : Nat → Prop} (h : IsR w N rb Vb l us ex sz) (k : Keeps F w w') (h1 : ∀ g, RW rb Vb g → ¬ F g) (h3 : ∀ x ∈ l, ∀ k, ROk x k → ¬ F k) : IsR w' N rb Vb l us ex sz :=
  ⟨k.get h.hb (h1 _ (.inl rfl)), h.bl.keeps k fun g hg => h1 g (.inr hg), fun x hx => (h.fb x hx).keeps k (h3 x hx), h.ro, h.far⟩
theorem IsR.same (h : IsR w N rb Vb l us ex sz) (k : Same w w') : IsR w' N rb Vb l us ex sz := h.keeps k (fun _ _ => id) (fun _ _ _ _ => id)
theorem IsR.c (h : IsR w N rb Vb l us ex sz) (o : Nat) : w.cell? ⟨rb, o, none⟩ = (rA Vb us ex sz)[o]? := cell_of h.hb o
theorem IsR.fz (h : IsR w N rb Vb l us ex sz) (o : Nat) : w.frozen? ⟨rb, o, none⟩ = false := frozen_of h.hb o
theorem IsR.sl (h : IsR w N rb Vb l us ex sz) : ∃ p c, Vb = .slice p l.length c := by
  have := h.bl.sl
  simpa using this
theorem IsR.num' {us' ex' : Int} (h : IsR w N rb Vb l us ex sz) (k : Keeps (fun k => k = rb) w w') (hb : w'.heap[rb]? = some (.cells (rA Vb us' ex' sz) 56 (0, 0))) : IsR w' N rb Vb l us' ex' sz := by
  obtain ⟨t1, t2⟩ := h.tg_
  exact ⟨hb, h.bl.keeps k fun g hg => ne_tg (t2 g hg) t1 (by decide), fun x hx => (h.fb x hx).keeps k fun g hg e => h.ro x hx g hg (.inl e), h.ro, h.far⟩
/-- The blocks' row grew by one, and its slice was stored. -/
theorem IsR.bl' {u : World} {v' : Value} {x : Fb} (h : IsR w N rb Vb l us ex sz) (k : Keeps (fun k => some k = Vb.ownBlock) w u) (hr : RowX u N 62 8 v' ((l ++ [x]).map fbR)) (hf : ∀ g, some g = v'.ownBlock → some g = Vb.ownBlock ∨ w.heap.size ≤ g)
    (hx : FbOk w x) (hxr : ∀ g, ROk x g → ¬ RW rb Vb g) :
    IsR (u.setCell ⟨rb, 0, none⟩ v') N rb v' (l ++ [x]) us ex sz := by
  obtain ⟨t1, t2⟩ := h.tg_
  have k2 : Keeps (fun k => some k = Vb.ownBlock ∨ k = rb) w (u.setCell ⟨rb, 0, none⟩ v') := (k.mono fun _ _ h => .inl h).setCell (fun _ => .inr rfl) _
  have kc : Keeps (fun k => k = rb) u (u.setCell ⟨rb, 0, none⟩ v') := (Keeps.refl (fun k => k = rb) u).setCell (p := ⟨rb, 0, none⟩) (fun _ => rfl) _
  have hcb : u.heap[rb]? = some (.cells (rA Vb us ex sz) 56 (0, 0)) := k.get h.hb fun e => ne_tg t1 (t2 rb e) (by decide) rfl
  have hcv : ∀ g, some g = v'.ownBlock → g ≠ rb := fun g hg => ne_tg (tg_own hr.own g hg) (tg_cells hcb) (by decide)
  have hall : ∀ y ∈ l ++ [x], FbOk w y ∧ ∀ g, ROk y g → ¬ RW rb Vb g := fun y hy => by
    rcases List.mem_append.1 hy with hy | hy
    · exact ⟨h.fb y hy, h.ro y hy⟩
    · simp at hy; subst hy; exact ⟨hx, hxr⟩
  refine ⟨block_set hcb 0 v', hr.keeps kc fun g hg => hcv g hg, fun y hy => (hall y hy).1.keeps k2 fun g hg e => ?_, fun y hy g hg e => ?_, h.far⟩
  · rcases e with e | e
    · exact (hall y hy).2 g hg (.inr e)
    · exact (hall y hy).2 g hg (.inl e)
  · rcases e with e | e
    · exact (hall y hy).2 g hg (.inl e)
    · rcases hf g e with e | e
      · exact (hall y hy).2 g hg (.inr e)
      · have := (hall y hy).1.lt g hg; omega
theorem refFind_no {k1 k2 : Int} (hno : idxL (pl l) (k1, k2) = none) : refFindV l (k1, k2) = .tuple #[.agg blockZ, .bool false] := by unfold refFindV; rw [hno]
theorem refFind_yes {k1 k2 : Int} (h : (idxL (pl l) (k1, k2)).isSome = true) : ∃ x ∈ l, refFindV l (k1, k2) = .tuple #[blockV x, .bool true] := by
  cases hi : idxL (pl l) (k1, k2) with
  | none => rw [hi] at h; cases h
  | some j =>
    obtain ⟨f, hf, -⟩ := idxL_some hi
    obtain ⟨x, hx, -⟩ := pl_at hf
    exact ⟨x, List.mem_of_getElem? hx, by unfold refFindV; simp only [hi, hx]⟩
attribute [local go_sem ↓] x_stKy x_stRw x_stLd x_stOu x_stRb x_stCd x_stBk x_stLk
attribute [local go_sem] st_Ky st_Rw st_Ld st_Ou st_Rb st_Cd st_Bk st_Lk ne_s1 en_s1 ne_s2 en_s2 ne_s3 en_s3 ne_s4 en_s4 ne_s5 en_s5 ne_s6 en_s6 ne_s7 en_s7 ne_s8 en_s8 lt_s2 lt_s3 lt_s4 lt_s5 lt_s6 lt_s7 lt_s8 rowAt_at rowAt_old rowAt_drew rowAt_drewN setRow_drew setRow_at setRow_old setRow_setRow rowAt_setRow_eq rowAt_setRow_ne cell_setRow_eq cell_setRow_ne frozen_setRow_eq frozen_setRow_ne ones_lit oc_int oc_bool oc_str oc_ptr oc_sl oc_map oc_fn oc_nf oc_ni oc_if
set_option maxRecDepth 100000 in
set_option maxHeartbeats 4000000 in
theorem rf_put_no (h : IsRef w N rb Vb l sz) (hll : l.length ≤ 10000) (b : Bk) (hb : b.Ok w) (xs : List Int) (k1 k2 : Int) (hno : (idxL (pl l) (k1, k2)).isSome = true ∨ mayBlk b = false) :
    Calls Tryz.prog 40 #[.pointer (some ⟨rb, 0, none⟩), .agg #[.int .u32 k1, .int .u32 k2], .agg (bkA b)] w (RPutP w N rb Vb l sz (k1, k2) b xs) := by
  unfold RPutP
  simp only [if_pos hno]
  have HM := hidE (fun (w' : World) (hk : Same w w') => mayR_any b w' (hb.keeps hk))
  simp only [bkA] at *
  have k0 := ((Keeps.refl (fun _ => False) w).alloc (.cells #[.int .u32 k1, .int .u32 k2] 31)).alloc (.cells #[.slice b.ia b.n b.cn, .slice b.aa b.m b.cm, .int .u32 b.next, .int .u32 b.to, .int .i64 b.fin, b.fr, b.tb] 36)
  have B4 := hidE (block_old (.cells #[.slice b.ia b.n b.cn, .slice b.aa b.m b.cm, .int .u32 b.next, .int .u32 b.to, .int .i64 b.fin, b.fr, b.tb] 36) (block_new w (.cells #[.int .u32 k1, .int .u32 k2] 31)))
  have B5 := hidE (block_atR (.cells #[.slice b.ia b.n b.cn, .slice b.aa b.m b.cm, .int .u32 b.next, .int .u32 b.to, .int .i64 b.fin, b.fr, b.tb] 36) (by simp : (w.alloc (.cells #[.int .u32 k1, .int .u32 k2] 31)).heap.size = w.heap.size + 1))
  obtain ⟨W, hW⟩ : ∃ W, (w.alloc (.cells #[.int .u32 k1, .int .u32 k2] 31)).alloc (.cells #[.slice b.ia b.n b.cn, .slice b.aa b.m b.cm, .int .u32 b.next, .int .u32 b.to, .int .i64 b.fin, b.fr, b.tb] 36) = W := ⟨_, rfl⟩
  rw [hW] at k0 B4 B5
  have HH := hidE (h.same k0)
  have HK0 := hidE k0
  have HF := hidE (rf_find HH.out hll k1 k2)
  have c4 := cell_of B4.out
  generalize mayBlk b = MB at *
  clear h k0 hb
  by_cases hi : (idxL (pl l) (k1, k2)).isSome = true
  · obtain ⟨x, hx, hv⟩ := refFind_yes hi
    obtain ⟨o1, o2, o3⟩ := (HH.out.fb x hx).ones
    rw [hv] at HF
    simp only [blockV] at HF
    clear hv hno hi
    go_enter Tryz.func40, Tryz.ntmps40
    go_wp2_with fail
    try rw [hW]
    refine HF.out.mono ?_
    rintro _ w1 ⟨rfl, hk⟩
    have HU := hidE (HK0.out.trans hk)
    have HH1 := hidE (HH.out.same hk)
    clear hk HF HM c4 hW
    go_wp2
    go_ret2
    exact ⟨rfl, HH1.out.same ((Keeps.refl _ _).alloc _), HU.out.alloc _⟩
  · have hi0 : idxL (pl l) (k1, k2) = none := by
      cases hq : idxL (pl l) (k1, k2) with
      | none => rfl
      | some j => rw [hq] at hi; exact absurd rfl hi
    obtain rfl : MB = false := by
      rcases hno with h | h
      · exact absurd h hi
      · exact h
    rw [refFind_no hi0] at HF
    simp only [blockZ] at HF
    clear hno hi
    go_enter Tryz.func40, Tryz.ntmps40
    go_wp2_with fail
    try rw [hW]
    refine HF.out.mono ?_
    rintro _ w1 ⟨rfl, hk⟩
    have HU := hidE (HK0.out.trans hk)
    have HH1 := hidE (HH.out.same hk)
    have HU' := hidE (HU.out.alloc (.cells #[.int .u32 0, .int .u32 0, .int .i64 0, .slice none 0 0, .slice none 0 0, .slice none 0 0, .int .i64 0, .bool false] 62))
    have B51 := hidE (block_old (.cells #[.int .u32 0, .int .u32 0, .int .i64 0, .slice none 0 0, .slice none 0 0, .slice none 0 0, .int .i64 0, .bool false] 62) (hk.get B5.out id))
    have c5 := cell_of B51.out
    clear hk HF c4 hW B5
    go_wp2_with fail
    obtain ⟨W1, hW1⟩ : ∃ W1, w1.alloc (.cells #[.int .u32 0, .int .u32 0, .int .i64 0, .slice none 0 0, .slice none 0 0, .slice none 0 0, .int .i64 0, .bool false] 62) = W1 := ⟨_, rfl⟩
    have HH2 := hidE (HH1.out.same ((Keeps.refl _ _).alloc (.cells #[.int .u32 0, .int .u32 0, .int .i64 0, .slice none 0 0, .slice none 0 0, .slice none 0 0, .int .i64 0, .bool false] 62)))
    rw [hW1] at HU' c5 HH2 ⊢
    refine (HM.out _ HU'.out).mono ?_
    rintro _ w2 ⟨rfl, hk⟩
    have HU2 := hidE (HU'.out.trans hk)
    have HH3 := hidE (HH2.out.same hk)
    clear hk c5 hW1
    go_wp2
    go_ret2
    exact ⟨rfl, HH3.out, HU2.out⟩
end
end Go.Proofs.YtomphgpplbekiaaGreat
namespace Go.Proofs.YtomphgpplbekiaaGreat
open Go.RowKit
attribute [local go_sem ↓] Go.wp_at_zero Go.wp_at_succ
section
variable {w w' : World} {N rb : Nat} {Vb : Value} {l : List Fb} {us ex sz : Int}
theorem rb_info : (Tryz.prog.info? 62).map (fun i => (i.zero, i.size, i.bytes)) = some (some (.agg blockZ), 8, 104) := by kernel_rfl
attribute [local go_sem ↓] x_stKy x_stRw x_stLd x_stOu x_stRb x_stCd x_stBk x_stLk
attribute [local go_sem] st_Ky st_Rw st_Ld st_Ou st_Rb st_Cd st_Bk st_Lk ne_s1 en_s1 ne_s2 en_s2 ne_s3 en_s3 ne_s4 en_s4 ne_s5 en_s5 ne_s6 en_s6 ne_s7 en_s7 ne_s8 en_s8 lt_s2 lt_s3 lt_s4 lt_s5 lt_s6 lt_s7 lt_s8 rowAt_at rowAt_old rowAt_drew rowAt_drewN setRow_drew setRow_at setRow_old setRow_setRow rowAt_setRow_eq rowAt_setRow_ne cell_setRow_eq cell_setRow_ne frozen_setRow_eq frozen_setRow_ne ones_lit oc_int oc_bool oc_str oc_ptr oc_sl oc_map oc_fn oc_nf oc_ni oc_if
set_option maxRecDepth 100000 in
set_option maxHeartbeats 8000000 in
theorem rf_put_yes (h : IsRef w N rb Vb l sz) (hN : N ≤ w.heap.size) (hll : l.length ≤ 10000) (b : Bk) (hb : b.Ok w) (xs : List Int) (hfr : IntSl w b.fr xs) (hfN : xs ≠ [] → ∀ g, some g = b.fr.ownBlock → g < N) (hol : (ownL (pl l)).length ≤ 60000) (hus : usedL (pl l) ≤ 1000000) (_hsz : 0 ≤ sz ∧ sz ≤ 1000000) (k1 k2 : Int)
    (hno : idxL (pl l) (k1, k2) = none) (hm : mayBlk b = true) :
    Calls Tryz.prog 40 #[.pointer (some ⟨rb, 0, none⟩), .agg #[.int .u32 k1, .int .u32 k2], .agg (bkA b)] w (RPutP w N rb Vb l sz (k1, k2) b xs) := by
  unfold RPutP
  have hnn : ¬ ((idxL (pl l) (k1, k2)).isSome = true ∨ mayBlk b = false) := by simp [hno, hm]
  simp only [if_neg hnn]
  clear hnn
  have hmax : maxLen = 9223372036854775807 := rfl
  have hlen := trC_len (good_of hm) ((ownL (pl l)).length : Nat)
  have HM := hidE (fun (w' : World) (hk : Same w w') => by have h := mayR_any b w' (hb.keeps hk); rw [hm] at h; exact h)
  have HT := hidE (fun (w' : World) (hk : Same w w') => refTr_any b ((ownL (pl l)).length : Nat) w' (hb.keeps hk) (good_of hm) (by omega) (by omega))
  have HFR := hidE hfr
  unfold RefTr at HT
  have hfp : fpOf (pl l) (k1, k2) b xs = ⟨k1, k2, (usedL (pl l) : Nat), (trC b ((ownL (pl l)).length : Nat)).1, (trC b ((ownL (pl l)).length : Nat)).2, b.fin, xs, true⟩ := rfl
  rw [hfp]
  generalize hTC : trC b ((ownL (pl l)).length : Nat) = TC at *
  have hfl : xs ≠ [] → ∀ g, some g = b.fr.ownBlock → g < w.heap.size := fun hx g hg => Nat.lt_of_lt_of_le (hfN hx g hg) hN
  obtain ⟨fa, fc, efr, -⟩ := hfr
  simp only [bkA, efr] at *
  have k0 := ((Keeps.refl (fun _ => False) w).alloc (.cells #[.int .u32 k1, .int .u32 k2] 31)).alloc (.cells #[.slice b.ia b.n b.cn, .slice b.aa b.m b.cm, .int .u32 b.next, .int .u32 b.to, .int .i64 b.fin, (.slice fa xs.length fc), b.tb] 36)
  have B4 := hidE (block_old (.cells #[.slice b.ia b.n b.cn, .slice b.aa b.m b.cm, .int .u32 b.next, .int .u32 b.to, .int .i64 b.fin, (.slice fa xs.length fc), b.tb] 36) (block_new w (.cells #[.int .u32 k1, .int .u32 k2] 31)))
  have B5 := hidE (block_atR (.cells #[.slice b.ia b.n b.cn, .slice b.aa b.m b.cm, .int .u32 b.next, .int .u32 b.to, .int .i64 b.fin, (.slice fa xs.length fc), b.tb] 36) (by simp : (w.alloc (.cells #[.int .u32 k1, .int .u32 k2] 31)).heap.size = w.heap.size + 1))
  obtain ⟨W, hW⟩ : ∃ W, (w.alloc (.cells #[.int .u32 k1, .int .u32 k2] 31)).alloc (.cells #[.slice b.ia b.n b.cn, .slice b.aa b.m b.cm, .int .u32 b.next, .int .u32 b.to, .int .i64 b.fin, (.slice fa xs.length fc), b.tb] 36) = W := ⟨_, rfl⟩
  rw [hW] at k0 B4 B5
  have hlt := h.r_.lt
  have HRO := hidE (fun x hx k hk => (h.fb x hx).lt k hk : ∀ x ∈ l, ∀ k, ROk x k → k < w.heap.size)
  have HH := hidE (h.same k0)
  have HK0 := hidE k0
  have HF := hidE (rf_find HH.out hll k1 k2)
  rw [refFind_no hno] at HF
  simp only [blockZ] at HF
  have HLT := hidE hlt
  obtain ⟨p1, c1, ebl⟩ := h.sl
  have c4 := cell_of B4.out
  clear h k0 hb hfp hm hlt hno
  go_enter Tryz.func40, Tryz.ntmps40
  go_wp2_with fail
  try rw [hW]
  refine HF.out.mono ?_
  rintro _ w1 ⟨rfl, hk⟩
  have kz := (Keeps.refl (fun _ => False) w1).alloc (.cells #[.int .u32 0, .int .u32 0, .int .i64 0, .slice none 0 0, .slice none 0 0, .slice none 0 0, .int .i64 0, .bool false] 62)
  have HU := hidE ((HK0.out.trans hk).trans kz)
  have HH1 := hidE ((HH.out.same hk).same kz)
  have B41 := hidE (kz.get (hk.get B4.out id) id)
  have B51 := hidE (kz.get (hk.get B5.out id) id)
  have c5 := cell_of B51.out
  clear hk HF c4 hW B4 B5 kz HH
  go_wp2_with fail
  obtain ⟨W1, hW1⟩ : ∃ W1, w1.alloc (.cells #[.int .u32 0, .int .u32 0, .int .i64 0, .slice none 0 0, .slice none 0 0, .slice none 0 0, .int .i64 0, .bool false] 62) = W1 := ⟨_, rfl⟩
  rw [hW1] at HU HH1 B41 B51 c5 ⊢
  refine (HM.out _ HU.out).mono ?_
  rintro _ u6 ⟨rfl, hk⟩
  have HU6 := hidE (HU.out.trans hk)
  have HH6 := hidE (HH1.out.same hk).r_
  have B46 := hidE (hk.get B41.out id)
  have B56 := hidE (hk.get B51.out id)
  have d2 := HH6.out.c 2
  simp only [rA] at d2
  have qE : decide (65534 < ((ownL (pl l)).length : Int)) = false := decide_eq_false (by omega)
  clear c5 hk hW1 HH1 B41 B51 HU HM
  go_wp2_with fail
  refine wp_region_rz [0, 1, 2, 3, 4] [5] 6 [] [7] 0 (Same u6) u6.heap.size (by kernel_rfl) (by kernel_rfl) (fun u u' h k => Keeps.trans h k) (Keeps.refl _ _).drew (fun u h => h.size) _ rfl rfl (Z := #[.slice none 0 0, .slice none 0 0]) (ty := 60) (fun ρ u hu => by simp only [ptrV]; clear hu; go_simp) ?_
  simp only [opsOf, List.filterMap_cons, List.filterMap_nil, List.getElem?_cons_zero, List.getElem?_cons_succ]
  repeat (first | (refine seqV_run (v := ?_) rfl (fun u hu => ?_) ?_; rotate_left; (focus (have d1 := (HH6.out.same hu).c 2; have d2 := cell_of (hu.get B56.out id); simp only [rA] at d1; clear hu; go_simp; first | done | with_reducible rfl)); (try simp only [Act.put, List.setIfInBounds_toArray, List.set_cons_zero, List.set_cons_succ])) | (refine seqV_no rfl ?_; (try simp only [Act.put, List.setIfInBounds_toArray, List.set_cons_zero, List.set_cons_succ])))
  refine seqV_nil ?_
  refine chainP_call (f := 76) (args := #[.agg #[.slice b.ia b.n b.cn, .slice b.aa b.m b.cm, .int .u32 b.next, .int .u32 b.to, .int .i64 b.fin, (.slice fa xs.length fc), b.tb], .int .i64 ((ownL (pl l)).length : Nat)]) (RTrV w.heap.size TC) rfl (RTrV.stable _ _) (fun u hu _ => by clear hu; go_simp) (fun u hu _ => (HT.out u (HU6.out.trans hu)).mono (by
    rintro _ u' ⟨bv, rv, rfl, h1, h2, h3⟩
    have hz := (HU6.out.trans hu).size
    exact ⟨_, rfl, h3, bv, rv, rfl, own_base h1 hz, own_base h2 hz⟩)) (fun v hv => ?_)
  obtain ⟨_, _, bv, rv, rfl, hb1, hr1⟩ := hv
  obtain ⟨pb, cpb, rfl⟩ := owns_slice hb1
  obtain ⟨pr, cpr, rfl⟩ := owns_slice hr1
  (try simp only [Act.put, List.setIfInBounds_toArray, List.set_cons_zero, List.set_cons_succ])
  refine chainP_nil ?_
  refine seqV_nil ?_
  intro b3 hb3
  (try simp only [ptrV])
  refine tailR_zero fun u7 hu hp => ?_
  (try simp only [List.setIfInBounds_toArray, List.set_cons_zero, List.set_cons_succ])
  obtain ⟨hTr, hB3⟩ := hp
  have hTr := RTrV.out hTr
  have r3 := rowAt_of hB3
  have l3 := lt_of_block hB3
  have HTr := hidE hTr
  have HU7 := hidE (HU6.out.trans hu)
  have HH7 := hidE (HH6.out.same hu)
  have B47 := hidE (hu.get B46.out id)
  have B57 := hidE (hu.get B56.out id)
  have B37 := hidE hB3
  clear hu hTr hB3 HH6 B46 B56 HT d2
  go_wp2_with fail
  obtain ⟨U, hU⟩ : ∃ U, u7.setRow b3 #[.slice pb TC.1.length cpb, .slice pr TC.2.length cpr] = U := ⟨_, rfl⟩
  rw [hU]
  have kk : Keeps (fun k => k = b3) u7 U := by rw [← hU]; exact Keeps.setRow (F := fun k => k = b3) (Keeps.refl _ _) (fun _ => rfl) _
  have hz6 := HU6.out.size
  have hb3w : w.heap.size ≤ b3 := Nat.le_trans hz6 hb3
  have tB := tg_cells B37.out
  have HHU := hidE (HH7.out.keeps kk (fun k hk => by have := (HLT.out k hk).2; omega) (fun x hx k hk => by have := HRO.out x hx k hk; omega))
  have HKU := hidE (same_then HU7.out kk (fun k e => by omega))
  have HTU := hidE (And.intro (owns_apart HTr.out.1 kk (fun g hg => ne_tg (tg_own HTr.out.1 g hg) tB (by decide))) (owns_apart HTr.out.2 kk (fun g hg => ne_tg (tg_own HTr.out.2 g hg) tB (by decide))))
  have B4U := hidE (kk.get B47.out (ne_tg (tg_cells B47.out) tB (by decide)))
  have B5U := hidE (kk.get B57.out (ne_tg (tg_cells B57.out) tB (by decide)))
  have B3U := hidE (show U.heap[b3]? = some (.cells #[.slice pb TC.1.length cpb, .slice pr TC.2.length cpr] 60 (0, 0)) by rw [← hU]; simp [World.setRow, Array.getElem?_modify, B37.out])
  have eS := wrapI (((usedL (pl l) : Nat) : Int) + ((TC.1.length : Nat) : Int)) (by omega) (by omega)
  clear r3 l3 hU kk tB HH7 HU7 HTr B47 B57 B37 hz6 hb3
  by_cases hfit : ((usedL (pl l) + TC.1.length : Nat) : Int) ≤ sz
  · have qS : decide (sz < ((usedL (pl l) : Nat) : Int) + ((TC.1.length : Nat) : Int)) = false := decide_eq_false (by omega)
    refine wp_region_ra [0, 1, 2, 3, 4, 5, 6, 7, 8, 9, 10, 11, 12] [] 0 (Same _) (by kernel_rfl) (by kernel_rfl) (fun u u' h k => Keeps.trans h k) (Keeps.refl _ _).drew ?_; simp only [opsOf, List.filterMap_cons, List.filterMap_nil, List.getElem?_cons_zero, List.getElem?_cons_succ]
    repeat (first | (refine seqV_run (v := ?_) rfl (fun u hu => ?_) ?_; rotate_left; (focus (have d1 := (HHU.out.same hu).c 1; have d2 := (HHU.out.same hu).c 3; have d3 := cell_of (hu.get B3U.out id); simp only [rA] at d1 d2; clear hu; go_simp; first | done | with_reducible rfl)); (try simp only [Act.put, List.setIfInBounds_toArray, List.set_cons_zero, List.set_cons_succ])) | (refine seqV_no rfl ?_; (try simp only [Act.put, List.setIfInBounds_toArray, List.set_cons_zero, List.set_cons_succ])))
    refine seqV_nil ?_
    refine tailR_zero fun u8 hu _ => ?_
    (try simp only [Act.put, List.setIfInBounds_toArray, List.set_cons_zero, List.set_cons_succ])
    have HH8 := hidE (HHU.out.same hu)
    have HK8 := hidE (HKU.out.trans hu)
    have HT8 := hidE (And.intro (owns_apart HTU.out.1 hu (fun _ _ => id)) (owns_apart HTU.out.2 hu (fun _ _ => id)))
    have B48 := hidE (hu.get B4U.out id)
    have B58 := hidE (hu.get B5U.out id)
    have B38 := hidE (hu.get B3U.out id)
    have d1 := HH8.out.c 1
    simp only [rA] at d1
    clear hu HHU HKU HTU B4U B5U B3U
    go_wp2_with fail
    have C0 := hidE (HH8.out.c 0)
    have F0 := hidE (HH8.out.fz 0)
    have C5 := hidE (cell_of B58.out 5)
    have C6 := hidE (cell_of B58.out 4)
    have hbw : ∀ g, some g = (Value.slice p1 l.length c1).ownBlock → g < w.heap.size := fun g hg => (HLT.out g (.inr (by rw [ebl]; exact hg))).2
    have ncb : ¬ (some rb = (Value.slice p1 l.length c1).ownBlock) := fun e => ne_tg HH8.out.tg_.1 (HH8.out.tg_.2 rb (by rw [ebl]; exact e)) (by decide) rfl
    refine wp_region_rp [0, 1, 2, 3, 4, 5, 6, 7, 8, 9, 10, 11, 12] [13, 14, 15, 16, 17] 2 (Keeps (fun g => some g = (Value.slice p1 l.length c1).ownBlock) u8) (Same u8) (by kernel_rfl) (by kernel_rfl) (fun u u' h k => h.trans (k.mono fun _ _ h => h.elim)) (Keeps.refl _ _).drew (fun u u' h k => h.trans k) (Keeps.refl _ _).drew ?_
    simp only [opsOf, List.filterMap_cons, List.filterMap_nil, List.getElem?_cons_zero, List.getElem?_cons_succ]
    repeat (first | (refine seqV_run (v := ?_) rfl (fun u hu => ?_) ?_; rotate_left; (focus (have d1 := cellK hu ncb C0.out; have d2 := cell_of (hu.get B48.out (fun e => by have := hbw _ e; omega)); have d3 := cell_of (hu.get B38.out (fun e => by have := hbw _ e; omega)); have d4 := cellK hu (fun e => by have := hbw _ e; omega) C5.out; have d5 := cellK hu (fun e => by have := hbw _ e; omega) C6.out; simp only [rA, ebl] at d1; clear hu; go_simp; first | done | with_reducible rfl)); (try simp only [Act.put, List.setIfInBounds_toArray, List.set_cons_zero, List.set_cons_succ])) | (refine seqV_no rfl ?_; (try simp only [Act.put, List.setIfInBounds_toArray, List.set_cons_zero, List.set_cons_succ])))
    refine seqV_nil ?_
    refine tailR_cons (fun x u => Same u8 u ∧ ∃ g, x = .slice (some ⟨g, 0, none⟩) 1 1 ∧ u.heap[g]? = some (.cells #[.int .u32 k1, .int .u32 k2, .int .i64 (usedL (pl l) : Nat), .slice pb TC.1.length cpb, .slice pr TC.2.length cpr, (.slice fa xs.length fc), .int .i64 b.fin, .bool true] 62 (0, 0))) rfl (fun x u u' h k => ⟨h.1.trans k, h.2.elim fun g hg => ⟨g, hg.1, k.get hg.2 id⟩⟩) (fun u hu hp => ?_) (fun v1 hv1 => ?_)
    · have hx : ∀ X : Result Next, X = .ok (.value (.slice (some ⟨u.heap.size, 0, none⟩) 1 1)) (u.alloc (.cells #[.int .u32 k1, .int .u32 k2, .int .i64 (usedL (pl l) : Nat), .slice pb TC.1.length cpb, .slice pr TC.2.length cpr, (.slice fa xs.length fc), .int .i64 b.fin, .bool true] 62)) → stepR Tryz.prog (fun x u' => Keeps (fun g => some g = (Value.slice p1 l.length c1).ownBlock) u8 u' ∧ Same u8 u' ∧ ∃ g, x = .slice (some ⟨g, 0, none⟩) 1 1 ∧ u'.heap[g]? = some (.cells #[.int .u32 k1, .int .u32 k2, .int .i64 (usedL (pl l) : Nat), .slice pb TC.1.length cpb, .slice pr TC.2.length cpr, (.slice fa xs.length fc), .int .i64 b.fin, .bool true] 62 (0, 0))) X := fun X e => by
        rw [e]
        exact ⟨hu.alloc _, hp.alloc _, _, rfl, block_new _ _⟩
      exact hx _ (by clear hu hp; go_simp)
    obtain ⟨_, _, _, g1, rfl, _⟩ := hv1
    (try simp only [Act.put, List.setIfInBounds_toArray, List.set_cons_zero, List.set_cons_succ])
    have hbl0 := HH8.out.bl
    simp only [ebl] at hbl0
    have HBL := hidE hbl0
    clear hbl0
    refine tailR_cons (fun x u => RowX u N 62 8 x ((l ++ [(mkFb k1 k2 (usedL (pl l) : Nat) TC b.fin xs (.slice pb TC.1.length cpb) (.slice pr TC.2.length cpr) (.slice fa xs.length fc))]).map fbR) ∧ ∀ g, some g = x.ownBlock → some g = (Value.slice p1 l.length c1).ownBlock ∨ u8.heap.size ≤ g) rfl (fun x u u' h k => ⟨h.1.keeps k (fun _ _ => id), h.2⟩) (fun u hu hp => ?_) (fun v2 hv2 => ?_)
    · obtain ⟨hs, g, e, hg⟩ := hp
      cases e
      obtain ⟨g', cap, u', hap, h5, h6⟩ := (HBL.out.keeps hs (fun _ _ => id)).push (P := Tryz.prog) 54 _ 104 Tryz.underlying54 rb_info (by rfl) (by decide) (by decide) [.int .u32 k1, .int .u32 k2, .int .i64 (usedL (pl l) : Nat), .slice pb TC.1.length cpb, .slice pr TC.2.length cpr, (.slice fa xs.length fc), .int .i64 b.fin, .bool true] rfl (by simp [Value.oneCell']) g1 1 hg rfl (by simp; omega) (by have := hs.size; have := HK8.out.size; omega)
      simp only [List.length_map] at hap h5 h6
      have hx : ∀ X : Result Next, X = .ok (.value (.slice (some ⟨g', 0, none⟩) (l.length + 1) cap)) u' → stepR Tryz.prog (fun x u' => Keeps (fun g => some g = (Value.slice p1 l.length c1).ownBlock) u8 u' ∧ RowX u' N 62 8 x ((l ++ [(mkFb k1 k2 (usedL (pl l) : Nat) TC b.fin xs (.slice pb TC.1.length cpb) (.slice pr TC.2.length cpr) (.slice fa xs.length fc))]).map fbR) ∧ ∀ g, some g = x.ownBlock → some g = (Value.slice p1 l.length c1).ownBlock ∨ u8.heap.size ≤ g) X := fun X e => by
        rw [e]
        refine ⟨hu.trans h6.keeps, by rw [List.map_append]; exact h5, fun j hj => ?_⟩
        rcases h6.fresh j hj with h7 | h7
        · exact .inl h7
        · exact .inr (by have := hs.size; omega)
      exact hx _ (exec_app (.tmp 56) (.tmp 65) 54 rfl rfl rfl hap)
    obtain ⟨_, _, hv2, hv3⟩ := hv2
    obtain ⟨p6, c6, rfl⟩ := hv2.sl
    (try simp only [Act.put, List.setIfInBounds_toArray, List.set_cons_zero, List.set_cons_succ])
    refine tailR_zero fun u13 hu hp => ?_
    have d3 := cellK hu ncb C0.out
    have f3 := frozenK hu ncb (lt_of_block HH8.out.hb) F0.out
    simp only [rA] at d3
    have HU13 := hidE hu
    have HP13 := hidE hp
    clear hu hp hv2 hv3
    have hl1 : ((l ++ [(mkFb k1 k2 (usedL (pl l) : Nat) TC b.fin xs (.slice pb TC.1.length cpb) (.slice pr TC.2.length cpr) (.slice fa xs.length fc))]).map fbR).length = l.length + 1 := by simp
    go_wp2_with fail
    have kk : Keeps (fun g => some g = (Value.slice p1 l.length c1).ownBlock ∨ g = rb) u8 (u13.setCell ⟨rb, 0, none⟩ (.slice p6 (l.length + 1) c6)) := (HU13.out.mono fun _ _ h => .inl h).setCell (fun _ => .inr rfl) _
    have X1 := hidE (show FbOk u8 (mkFb k1 k2 (usedL (pl l) : Nat) TC b.fin xs (.slice pb TC.1.length cpb) (.slice pr TC.2.length cpr) (.slice fa xs.length fc)) from fbOk_mk (fp := ⟨k1, k2, (usedL (pl l) : Nat), TC.1, TC.2, b.fin, xs, true⟩) HT8.out.1 HT8.out.2 (HFR.out.keeps HK8.out (fun _ _ => id)) (fun hx g hg => Nat.lt_of_lt_of_le (hfl hx g hg) HK8.out.size))
    have X2 := hidE (fun (k : Nat) (hk : ROk (mkFb k1 k2 (usedL (pl l) : Nat) TC b.fin xs (.slice pb TC.1.length cpb) (.slice pr TC.2.length cpr) (.slice fa xs.length fc)) k) => (show w.heap.size ≤ k ∨ (xs ≠ [] ∧ some k = (Value.slice fa xs.length fc).ownBlock) by
      rcases hk with hk | hk | hk
      · exact .inl (World.ownsRow.lt HT8.out.1 k hk.symm).1
      · exact .inl (World.ownsRow.lt HT8.out.2 k hk.symm).1
      · exact .inr hk))
    have hI := HH8.out.bl' (by simp only [ebl]; exact HU13.out) HP13.out.1 (fun g hg => by simp only [ebl]; exact HP13.out.2 g hg) X1.out (fun g hg e => by
      have h2 := HLT.out g e
      rcases X2.out g hg with h1 | h1
      · omega
      · have := hfN h1.1 g h1.2; omega)
    have hp2 := HP13.out.2
    rw [hl1] at hI hp2
    have HI := hidE hI
    have HP2 := hidE hp2
    have HKK := hidE ((HK8.out.mono (G := RW rb Vb) (fun _ _ h => h.elim)).trans (kk.mono (G := RW rb Vb) fun g _ hg => by
      rcases hg with hg | rfl
      · exact .inr (by rw [ebl]; exact hg)
      · exact .inl rfl))
    have tO := HH8.out.tg_
    have HB3' := hidE (kk.get B38.out (by
      rintro (e | e)
      · exact ne_tg (tg_cells B38.out) (tO.2 _ (by rw [ebl]; exact e)) (by decide) rfl
      · exact ne_tg (tg_cells B38.out) tO.1 (by decide) e))
    have HT' := hidE (owns_apart HT8.out.2 kk (by
      rintro g hg (e | e)
      · exact ne_tg (tg_own HT8.out.2 g hg) (tO.2 _ (by rw [ebl]; exact e)) (by decide) rfl
      · exact ne_tg (tg_own HT8.out.2 g hg) tO.1 (by decide) e))
    have hsz8 := HK8.out.size
    clear hI kk d3 f3 HU13 HP13 hp2 tO
    obtain ⟨U, hU⟩ : ∃ U, u13.setCell ⟨rb, 0, none⟩ (.slice p6 (l.length + 1) c6) = U := ⟨_, rfl⟩
    rw [hU] at HI HKK HB3' HT' ⊢
    clear hU HH8 HK8 B38 HT8 B48 B58 C0 F0 C5 C6 HBL d1 X1
    refine wp_region_ra [0, 1, 2, 3, 4, 5, 6, 7, 8] [9, 10, 11] 0 (Same _) (by kernel_rfl) (by kernel_rfl) (fun u u' h k => Keeps.trans h k) (Keeps.refl _ _).drew ?_; simp only [opsOf, List.filterMap_cons, List.filterMap_nil, List.getElem?_cons_zero, List.getElem?_cons_succ]
    repeat (first | (refine seqV_run (v := ?_) rfl (fun u hu => ?_) ?_; rotate_left; (focus (have d1 := (HI.out.same hu).c 1; have d2 := cell_of (hu.get HB3'.out id); simp only [rA] at d1; clear hu; go_simp; first | done | with_reducible rfl)); (try simp only [Act.put, List.setIfInBounds_toArray, List.set_cons_zero, List.set_cons_succ])) | (refine seqV_no rfl ?_; (try simp only [Act.put, List.setIfInBounds_toArray, List.set_cons_zero, List.set_cons_succ])))
    refine seqV_nil ?_
    refine tailR_zero fun u14 hu _ => ?_
    (try simp only [Act.put, List.setIfInBounds_toArray, List.set_cons_zero, List.set_cons_succ])
    have HI14 := hidE (HI.out.same hu)
    have HK14 := hidE (HKK.out.trans (hu.mono fun _ _ h => h.elim))
    have HB14 := hidE (hu.get HB3'.out id)
    have HT14 := hidE (owns_apart HT'.out hu (fun _ _ => id))
    have d1 := HI14.out.c 1
    have f1 := HI14.out.fz 1
    simp only [rA] at d1
    clear hu HI HKK HB3' HT'
    go_wp2_with fail
    have kc := (Keeps.refl (fun k => k = rb) u14).setCell (p := ⟨rb, 1, none⟩) (fun _ => rfl) (.int .i64 (((usedL (pl l) : Nat) : Int) + ((TC.1.length : Nat) : Int)))
    have HI2 := hidE (HI14.out.num' (us' := ((usedL (pl l) : Nat) : Int) + ((TC.1.length : Nat) : Int)) (ex' := ((ownL (pl l)).length : Nat)) kc (block_set HI14.out.hb 1 _))
    have HK2 := hidE (HK14.out.trans (kc.mono (G := RW rb Vb) fun _ _ e => .inl e))
    have HB2 := hidE (kc.get HB14.out (ne_tg (tg_cells HB14.out) HI14.out.tg_.1 (by decide)))
    have HT2 := hidE (owns_apart HT14.out kc (fun g hg => ne_tg (tg_own HT14.out g hg) HI14.out.tg_.1 (by decide)))
    clear kc d1 f1 HI14 HK14 HB14 HT14
    obtain ⟨U2, hU2⟩ : ∃ U2, u14.setCell ⟨rb, 1, none⟩ (.int .i64 (((usedL (pl l) : Nat) : Int) + ((TC.1.length : Nat) : Int))) = U2 := ⟨_, rfl⟩
    rw [hU2] at HI2 HK2 HB2 HT2 ⊢
    clear hU2
    have hE : (exL TC.2).length ≤ 50 := Nat.le_trans (exL_le _) hlen.2
    have eX := wrapI (((ownL (pl l)).length : Int) + ((exL TC.2).length : Int)) (by omega) (by omega)
    refine wp_region_rp [0, 1, 2, 3, 4, 5, 6] [7, 8, 9, 10, 11, 12] 3 (Same U2) (fun _ => True) (by kernel_rfl) (by kernel_rfl) (fun u u' h k => h.trans k) (Keeps.refl _ _).drew (fun _ _ _ _ => trivial) trivial ?_
    simp only [opsOf, List.filterMap_cons, List.filterMap_nil, List.getElem?_cons_zero, List.getElem?_cons_succ]
    repeat (first | (refine seqV_run (v := ?_) rfl (fun u hu => ?_) ?_; rotate_left; (focus (have d1 := (HI2.out.same hu).c 2; have d2 := cell_of (hu.get HB2.out id); simp only [rA] at d1; clear hu; go_simp; first | done | with_reducible rfl)); (try simp only [Act.put, List.setIfInBounds_toArray, List.set_cons_zero, List.set_cons_succ])) | (refine seqV_no rfl ?_; (try simp only [Act.put, List.setIfInBounds_toArray, List.set_cons_zero, List.set_cons_succ])))
    refine seqV_nil ?_
    refine tailR_cons (fun x u => RowR u w.heap.size x (exL TC.2)) rfl (fun x u u' h k => owns_apart h k (fun _ _ => id)) (fun u hu hp => ?_) (fun v1 hv1 => ?_)
    · refine stepR_callM2 (w' := u) (f := 77) (args := #[.slice pr TC.2.length cpr]) (by clear hu hp; go_simp) ?_
      refine (r21_exits u _ _ TC.2 (owns_apart HT2.out hu (fun _ _ => id)) (by omega)).mono ?_
      rintro _ w'' ⟨v, rfl, h1, h2⟩
      exact ⟨_, rfl, hu.trans h2, own_base h1 (by have := hu.size; have := HK2.out.size; omega)⟩
    obtain ⟨_, _, hv1⟩ := hv1
    obtain ⟨pe, ce, rfl⟩ := owns_slice hv1
    clear hv1
    (try simp only [Act.put, List.setIfInBounds_toArray, List.set_cons_zero, List.set_cons_succ])
    ((refine tailR_run (v := ?_) rfl (fun u u' h k => owns_apart h k (fun _ _ => id)) (fun u hu hp => ?_) ?_; rotate_left; (focus (clear hu hp; go_simp; first | done | with_reducible rfl)); (try simp only [Act.put, List.setIfInBounds_toArray, List.set_cons_zero, List.set_cons_succ])))
    ((refine tailR_run (v := ?_) rfl (fun u u' h k => owns_apart h k (fun _ _ => id)) (fun u hu hp => ?_) ?_; rotate_left; (focus (clear hu hp; go_simp; first | done | with_reducible rfl)); (try simp only [Act.put, List.setIfInBounds_toArray, List.set_cons_zero, List.set_cons_succ])))
    refine tailR_zero fun u15 hu _ => ?_
    (try simp only [Act.put, List.setIfInBounds_toArray, List.set_cons_zero, List.set_cons_succ])
    have HI15 := hidE (HI2.out.same hu)
    have HK15 := hidE (HK2.out.trans (hu.mono fun _ _ h => h.elim))
    have d1 := HI15.out.c 2
    have f1 := HI15.out.fz 2
    simp only [rA] at d1
    clear hu HI2 HK2 HB2 HT2
    go_wp2_with fail
    go_ret2
    have kc := (Keeps.refl (fun k => k = rb) u15).setCell (p := ⟨rb, 2, none⟩) (fun _ => rfl) (.int .i64 (((ownL (pl l)).length : Int) + ((exL TC.2).length : Int)))
    have hfin := HI15.out.num' (us' := ((usedL (pl l) : Nat) : Int) + ((TC.1.length : Nat) : Int)) (ex' := ((ownL (pl l)).length : Int) + ((exL TC.2).length : Int)) kc (block_set HI15.out.hb 2 _)
    refine ⟨rfl, .slice p6 (l.length + 1) c6, ⟨.slice pb TC.1.length cpb, .slice pr TC.2.length cpr, .slice fa xs.length fc⟩, hfin.done ?_ ?_, ?_, fun g hg => ?_, fun g hg => X2.out g hg⟩
    · simp only [pl, List.map_append, List.map_cons, List.map_nil]
      rw [usedL_push]
      simp [mkFb]
    · simp only [pl, List.map_append, List.map_cons, List.map_nil]
      rw [ownL_push]
      simp [exN, mkFb]
    · rw [← ebl]
      exact HK15.out.trans (kc.mono fun _ _ e => .inl e)
    · rcases hg with hg | hg
      · exact .inl (.inl hg)
      · rcases HP2.out g hg with e | e
        · exact .inl (.inr e)
        · exact .inr (by omega)
  · have qS : decide (sz < ((usedL (pl l) : Nat) : Int) + ((TC.1.length : Nat) : Int)) = true := decide_eq_true (by omega)
    refine wp_region_ra [0, 1, 2, 3, 4, 5, 6, 7, 8, 9, 10, 11, 12] [] 0 (Same _) (by kernel_rfl) (by kernel_rfl) (fun u u' h k => Keeps.trans h k) (Keeps.refl _ _).drew ?_; simp only [opsOf, List.filterMap_cons, List.filterMap_nil, List.getElem?_cons_zero, List.getElem?_cons_succ]
    repeat (first | (refine seqV_run (v := ?_) rfl (fun u hu => ?_) ?_; rotate_left; (focus (have d1 := (HHU.out.same hu).c 1; have d2 := (HHU.out.same hu).c 3; have d3 := cell_of (hu.get B3U.out id); simp only [rA] at d1 d2; clear hu; go_simp; first | done | with_reducible rfl)); (try simp only [Act.put, List.setIfInBounds_toArray, List.set_cons_zero, List.set_cons_succ])) | (refine seqV_no rfl ?_; (try simp only [Act.put, List.setIfInBounds_toArray, List.set_cons_zero, List.set_cons_succ])))
    refine seqV_nil ?_
    refine tailR_zero fun u8 hu _ => ?_
    (try simp only [Act.put, List.setIfInBounds_toArray, List.set_cons_zero, List.set_cons_succ])
    have HH8 := hidE (HHU.out.same hu)
    have HK8 := hidE (HKU.out.trans hu)
    clear hu HHU HKU HTU B4U B5U B3U
    go_wp2
    go_ret2
    rw [← ebl]
    exact ⟨rfl, HH8.out.done rfl rfl, HK8.out⟩
end
end Go.Proofs.YtomphgpplbekiaaGreat
namespace Go.Proofs.YtomphgpplbekiaaGreat
open Go.RowKit
attribute [local go_sem ↓] Go.wp_at_zero Go.wp_at_succ

/-- The row of a live block with an exit. -/
def rowOf (x : Fb) (ex : Int) : Option Rw := if x.1.live then x.1.rs.find? (fun r => r.ex == ex) else none
def refOut (l : List Fb) (ex : Int) : Option (Fb × Rw) := l.findSome? (fun x => (rowOf x ex).map fun r => (x, r))
def refOutV (l : List Fb) (ex : Int) : Value := if ex < 0 then .tuple #[.agg #[.int .u32 0, .int .u32 0], .int .i64 0, .int .u32 0, .bool false] else match refOut l ex with
  | some (x, r) => .tuple #[.agg #[.int .u32 x.1.k1, .int .u32 x.1.k2], .int .i64 (x.1.pos + r.off), .int .u32 r.pc, .bool true]
  | none => .tuple #[.agg #[.int .u32 0, .int .u32 0], .int .i64 0, .int .u32 0, .bool false]
theorem some_step {α β : Type} {l : List α} {p : α → Option β} {k : Nat} {x : α} (h : l[k]? = some x) (h0 : (l.take k).findSome? p = none) : (∀ y, p x = some y → l.findSome? p = some y) ∧ (p x = none → (l.take (k + 1)).findSome? p = none) := by
  have hlt : k < l.length := (List.getElem?_eq_some_iff.1 h).1
  have he : l[k] = x := by rw [List.getElem?_eq_getElem hlt] at h; exact Option.some.inj h
  refine ⟨fun y hp => ?_, fun hp => ?_⟩
  · have e : l = l.take k ++ x :: l.drop (k + 1) := by
      rw [← he, ← List.drop_eq_getElem_cons hlt, List.take_append_drop]
    rw [e, List.findSome?_append, h0]
    simp [hp]
  · rw [List.take_add_one, h, List.findSome?_append, h0]
    simp [hp]
section
variable {w w' : World} {N rb : Nat} {Vb : Value} {l : List Fb} {sz : Int}
attribute [local go_sem ↓] x_stKy x_stRw x_stLd x_stOu x_stRb x_stCd x_stBk x_stLk
attribute [local go_sem] st_Ky st_Rw st_Ld st_Ou st_Rb st_Cd st_Bk st_Lk ne_s1 en_s1 ne_s2 en_s2 ne_s3 en_s3 ne_s4 en_s4 ne_s5 en_s5 ne_s6 en_s6 ne_s7 en_s7 ne_s8 en_s8 lt_s2 lt_s3 lt_s4 lt_s5 lt_s6 lt_s7 lt_s8 rowAt_at rowAt_old rowAt_drew rowAt_drewN setRow_drew setRow_at setRow_old setRow_setRow rowAt_setRow_eq rowAt_setRow_ne cell_setRow_eq cell_setRow_ne frozen_setRow_eq frozen_setRow_ne ones_lit oc_int oc_bool oc_str oc_ptr oc_sl oc_map oc_fn oc_nf oc_ni oc_if
attribute [local go_sem ↓] x_ldRb
set_option maxRecDepth 100000 in
set_option maxHeartbeats 4000000 in
theorem rf_out (h : IsRef w N rb Vb l sz) (hll : l.length ≤ 10000) (ex : Int) (hb : ∀ x ∈ l, 0 ≤ x.1.pos ∧ x.1.pos ≤ 1000000 ∧ x.1.rs.length ≤ 5000 ∧ ∀ r ∈ x.1.rs, 0 ≤ r.off ∧ r.off ≤ 1000000) :
    Calls Tryz.prog 44 #[.pointer (some ⟨rb, 0, none⟩), .int .i64 ex] w fun e w' => e = .returned (refOutV l ex) ∧ Same w w' := by
  obtain ⟨p, c, ebl⟩ := h.sl
  obtain ⟨W, hW⟩ : ∃ W, w.alloc (.cells #[.int .u32 0, .int .u32 0] 31) = W := ⟨_, rfl⟩
  have B0 : Hid (W.heap[w.heap.size]? = some (.cells #[.int .u32 0, .int .u32 0] 31 (0, 0))) := hidE (by rw [← hW]; exact block_new _ _)
  have HK0 : Hid (Same w W) := hidE (by rw [← hW]; exact (Keeps.refl _ _).alloc _)
  have HH := hidE (h.same HK0.out)
  clear h
  go_enter Tryz.func44, Tryz.ntmps44
  go_wp2_with fail
  try rw [hW]
  clear hW
  go_loopw [8] (fun t8 wr => ∃ k : Nat, k ≤ l.length ∧ t8 = .int .i64 (k : Int) ∧ (0 ≤ ex → refOut (l.take k) ex = none) ∧ (ex < 0 → k = 0) ∧ Same W wr) (fun t8 _ => (l.length - intOf t8).toNat)
  case atStart => exact ⟨0, by omega, rfl, fun _ => by simp [refOut], fun _ => rfl, Keeps.refl _ _⟩
  case round =>
    obtain ⟨k, hk, rfl, hn, hz0, hs⟩ := hrel
    have HW := hidE hs
    clear hs
    have d0 := (HH.out.same HW.out).c 0
    simp only [refA, ebl] at d0
    have r1 := rowAt_of (HW.out.get B0.out id)
    have l1 := lt_of_block (HW.out.get B0.out id)
    have hend : ∀ w9, (k = l.length ∨ ex < 0) → Same w w9 → (Ending.returned (.tuple #[.agg #[.int .u32 0, .int .u32 0], .int .i64 0, .int .u32 0, .bool false])) = .returned (refOutV l ex) ∧ Same w w9 := fun w9 e hk9 => by
      refine ⟨?_, hk9⟩
      unfold refOutV
      by_cases hx : ex < 0
      · rw [if_pos hx]
      · rw [if_neg hx]
        have hkl : k = l.length := e.resolve_right hx
        have := hn (by omega)
        rw [hkl, List.take_length] at this
        rw [this]
    have HE := hidE hend
    clear hend
    by_cases hlt : k < l.length
    · have q0 : decide ((k : Int) < (l.length : Int)) = true := decide_eq_true (by omega)
      by_cases hx : ex < 0
      · have s0 : decide (0 ≤ ex) = false := decide_eq_false (by omega)
        go_wp2
        refine post_cttt (v := .int .i64 0) (v' := .int .u32 0) (v'' := .bool false) rfl Tryz.underlying31 rfl infoKy rfl rfl rfl rfl rfl (by go_simp; rfl) rfl ?_
        exact HE.out _ (.inr hx) ((HK0.out.trans HW.out).setRow (fun h => absurd h (Nat.lt_irrefl _)) _)
      · have s0 : decide (0 ≤ ex) = true := decide_eq_true (by omega)
        obtain ⟨x, hx9⟩ : ∃ x, l[k]? = some x := ⟨_, List.getElem?_eq_getElem hlt⟩
        obtain ⟨g, cap, e, n1, n2, hc⟩ := (HH.out.same HW.out).bk hx9
        rw [ebl] at e
        cases e
        have q1 : (k : Int) < (l.length : Int) := by omega
        have q3 : (0 : Int) ≤ (k : Int) := by omega
        have e1 := wrapI ((k : Int) + 1) (by omega) (by omega)
        obtain ⟨o1, o2, o3⟩ := ((HH.out.same HW.out).fb x (List.mem_of_getElem? hx9)).ones
        have hld := ld_at (P := Tryz.prog) (w := wr) (t := 62) (g := g) (o := k * 8) Tryz.underlying62 rfl infoRb (c := fbR x) rfl hc
        simp only [fbR] at hld
        obtain ⟨p0, p1, hrl, hro⟩ := hb x (List.mem_of_getElem? hx9)
        obtain ⟨-, ⟨B, hrow⟩, -, -⟩ := (HH.out.same HW.out).fb x (List.mem_of_getElem? hx9)
        obtain ⟨rp, rc, erv⟩ := owns_slice hrow
        have HR := hidE hrow
        have B9 := hidE (block_new wr (.cells #[.int .u32 x.1.k1, .int .u32 x.1.k2, .int .i64 x.1.pos, x.2.bv, .slice rp x.1.rs.length rc, x.2.fv, .int .i64 x.1.fin, .bool x.1.live] 62))
        have c9 := cell_of B9.out
        have B09 := hidE (block_old (.cells #[.int .u32 x.1.k1, .int .u32 x.1.k2, .int .i64 x.1.pos, x.2.bv, .slice rp x.1.rs.length rc, x.2.fv, .int .i64 x.1.fin, .bool x.1.live] 62) (HW.out.get B0.out id))
        have hst := some_step (p := fun x => (rowOf x ex).map fun r => (x, r)) hx9 (hn (by omega))
        have HST := hidE hst
        rw [erv] at hld o2
        clear hrow hc hst
        go_wp2_with fail
        have K9 := HW.out.alloc (.cells #[.int .u32 x.1.k1, .int .u32 x.1.k2, .int .i64 x.1.pos, x.2.bv, .slice rp x.1.rs.length rc, x.2.fv, .int .i64 x.1.fin, .bool x.1.live] 62)
        have HR9 := hidE (owns_apart HR.out ((Keeps.refl (fun _ => False) wr).alloc (.cells #[.int .u32 x.1.k1, .int .u32 x.1.k2, .int .i64 x.1.pos, x.2.bv, .slice rp x.1.rs.length rc, x.2.fv, .int .i64 x.1.fin, .bool x.1.live] 62)) (fun _ _ => id))
        obtain ⟨W9, hW9⟩ : ∃ W9, wr.alloc (.cells #[.int .u32 x.1.k1, .int .u32 x.1.k2, .int .i64 x.1.pos, x.2.bv, .slice rp x.1.rs.length rc, x.2.fv, .int .i64 x.1.fin, .bool x.1.live] 62) = W9 := ⟨_, rfl⟩
        rw [hW9] at K9 HR9 B9 B09 c9 ⊢
        have HK9 := hidE K9
        clear hW9 K9 hld d0 r1 l1
        go_loopw [10] (fun t10 wr2 => ∃ j : Nat, j ≤ x.1.rs.length ∧ t10 = .int .i64 (j : Int) ∧ (x.1.live = true → (x.1.rs.take j).find? (fun r => r.ex == ex) = none) ∧ W9 = wr2) (fun t10 _ => (x.1.rs.length - intOf t10).toNat)
        case atStart => exact ⟨0, by omega, rfl, fun _ => by simp, rfl⟩
        case round =>
          obtain ⟨j, hj, rfl, hnf, rfl⟩ := hrel
          by_cases hlt2 : j < x.1.rs.length
          · have p0' : decide ((j : Int) < (x.1.rs.length : Int)) = true := decide_eq_true (by omega)
            have p1' : (j : Int) < (x.1.rs.length : Int) := by omega
            have p3' : (0 : Int) ≤ (j : Int) := by omega
            have e2 := wrapI ((j : Int) + 1) (by omega) (by omega)
            cases hl : x.1.live with
            | false =>
              rw [hl] at c9
              go_wp2_with fail
              exact ⟨⟨j + 1, by omega, by simp, fun h => absurd h (by simp), trivial⟩, by simp only [intOf]; omega⟩
            | true =>
              rw [hl] at c9
              obtain ⟨r, hr⟩ : ∃ r, x.1.rs[j]? = some r := ⟨_, List.getElem?_eq_getElem hlt2⟩
              have hfs := find_step (p := fun r => r.ex == ex) hr (hnf hl)
              obtain ⟨r0, r1⟩ := hro r (List.mem_of_getElem? hr)
              have h9 := HR9.out
              rw [erv] at h9
              obtain ⟨g9, c29, e9, n9, hc9⟩ := rowsR_cells h9 hr
              cases e9
              have tg9 := tg_own h9 g9 rfl
              clear h9
              have a0 := hc9 0 _ rfl
              have a1 := hc9 1 _ rfl
              have a3 := hc9 3 _ rfl
              simp only [Nat.add_zero] at a0
              have HFS := hidE hfs
              clear hfs hc9
              by_cases he : r.ex = ex
              · subst he
                have s9 : (r.ex == r.ex) = true := beq_self_eq_true _
                have hf9 := HFS.out.1 s9
                have hro9 : (rowOf x r.ex).map (fun r => (x, r)) = some (x, r) := by unfold rowOf; rw [if_pos hl, hf9]; rfl
                have HV : Hid (refOutV l r.ex = .tuple #[.agg #[.int .u32 x.1.k1, .int .u32 x.1.k2], .int .i64 (x.1.pos + r.off), .int .u32 r.pc, .bool true]) := hidE (by
                  unfold refOutV
                  rw [if_neg (by omega)]
                  have : refOut l r.ex = some (x, r) := HST.out.1 _ hro9
                  rw [this])
                have e3 := wrapI (x.1.pos + r.off) (by omega) (by omega)
                have tk := tg_cells B09.out
                have m1 : wr.heap.size ≠ w.heap.size := ne_tg (tg_cells B9.out) tk (by decide)
                have m2 : g9 ≠ w.heap.size := ne_tg tg9 tk (by decide)
                have A0 := hidE a0
                have A1 := hidE a1
                clear hr hf9 hro9
                go_wp2_with fail
                refine wp_region_ra [0, 1, 2, 3, 4, 5, 6, 7, 8, 9, 10, 11, 12, 13, 14, 15, 16, 17, 18] [19, 20, 21, 22] 2 (SR W9 w.heap.size 1) (by kernel_rfl) (by kernel_rfl) SR.same (SR.init (by rw [rowAt_of B09.out]; rfl)) ?_
                simp only [opsOf, List.filterMap_cons, List.filterMap_nil, List.getElem?_cons_zero, List.getElem?_cons_succ]
                repeat (first | (refine seqV_run (v := ?_) rfl (fun u hu => ?_) ?_; rotate_left; (focus (have d1 := cell_of (hu.k.get B9.out m1); have d2 := cellK hu.k m2 A0.out; have d3 := cellK hu.k m2 A1.out; clear hu; go_simp; first | done | with_reducible rfl)); (try simp only [Act.put, List.setIfInBounds_toArray, List.set_cons_zero, List.set_cons_succ])) | (refine seqV_no rfl ?_; (try simp only [Act.put, List.setIfInBounds_toArray, List.set_cons_zero, List.set_cons_succ])))
                refine seqV_nil ?_
                refine tailR_row (A := #[.int .u32 x.1.k1, .int .u32 x.1.k2]) rfl rfl (fun u hu => ?_) ?_
                · have hz9 : (rowAt u w.heap.size).size = 2 := hu.z
                  clear hu
                  go_simp
                (try simp only [Act.put])
                ((refine tailR_run (v := ?_) rfl (fun u u' h k => by rw [row_same k (by rw [h]; exact Nat.zero_lt_succ _)]; exact h) (fun u hu hp => ?_) ?_; rotate_left; (focus (clear hu hp; go_simp; first | done | with_reducible rfl)); (try simp only [Act.put, List.setIfInBounds_toArray, List.set_cons_zero, List.set_cons_succ])))
                refine tailR_zero fun u9 hu hp => ?_
                (try simp only [Act.put, List.setIfInBounds_toArray, List.set_cons_zero, List.set_cons_succ])
                have HK8 := hidE (same_then (HK0.out.trans HK9.out) hu.k (fun k e => by subst e; exact Nat.le_refl _))
                clear hu
                go_wp2
                refine post_cttt (v := .int .i64 (x.1.pos + r.off)) (v' := .int .u32 r.pc) (v'' := .bool true) (A := #[.int .u32 x.1.k1, .int .u32 x.1.k2]) rfl Tryz.underlying31 rfl infoKy rfl rfl rfl rfl rfl hp rfl ?_
                rw [HV.out]
                exact ⟨rfl, HK8.out⟩
              · have s9 : (r.ex == ex) = false := beq_eq_false_iff_ne.2 he
                clear hr
                go_wp2_with fail
                exact ⟨⟨j + 1, by omega, by simp, fun _ => HFS.out.2 s9, trivial⟩, by simp only [intOf]; omega⟩
          · obtain rfl : j = x.1.rs.length := by omega
            have p0' : decide ((x.1.rs.length : Int) < (x.1.rs.length : Int)) = false := by simp
            have hno : (rowOf x ex).map (fun r => (x, r)) = none := by
              unfold rowOf
              cases hl : x.1.live with
              | false => rfl
              | true =>
                have h9 := hnf hl
                rw [List.take_length] at h9
                simp [h9]
            go_wp2_with fail
            exact ⟨⟨k + 1, by omega, by simp, fun _ => HST.out.2 hno, fun h => absurd h (by omega), HK9.out⟩, by simp only [intOf]; omega⟩
    · obtain rfl : k = l.length := by omega
      have q0 : decide ((l.length : Int) < (l.length : Int)) = false := by simp
      go_wp2
      refine post_cttt (v := .int .i64 0) (v' := .int .u32 0) (v'' := .bool false) rfl Tryz.underlying31 rfl infoKy rfl rfl rfl rfl rfl (by go_simp; rfl) rfl ?_
      exact HE.out _ (by first | exact .inl rfl | trivial | simp) ((HK0.out.trans HW.out).setRow (fun h => absurd h (Nat.lt_irrefl _)) _)
end
end Go.Proofs.YtomphgpplbekiaaGreat
namespace Go.Proofs.YtomphgpplbekiaaGreat
open Go.RowKit
attribute [local go_sem ↓] Go.wp_at_zero Go.wp_at_succ

/-- Whether the document's exit asks. -/
def refAsksB (l : List Fb) (ex : Int) : Bool := if ex < 0 then false else match refOut l ex with
  | some (x, _) => (match idxL (pl l) (x.1.k1, x.1.k2) with | some j => (match l[j]? with | some y => y.1.fin == 4 | none => false) | none => false)
  | none => false
/-- What Out says, in parts; and what Find then says. -/
theorem refOutV_parts (l : List Fb) (ex : Int) : ∃ q1 q2 o p b, refOutV l ex = .tuple #[.agg #[.int .u32 q1, .int .u32 q2], .int .i64 o, .int .u32 p, .bool b] ∧ ∃ a1 a2 a3 bv rv fv fin lv lb, refFindV l (q1, q2) = .tuple #[.agg #[.int .u32 a1, .int .u32 a2, .int .i64 a3, bv, rv, fv, .int .i64 fin, .bool lv], .bool lb] ∧ refAsksB l ex = (b && lb && (fin == 4)) ∧ ((bv = .slice none 0 0 ∧ rv = .slice none 0 0 ∧ fv = .slice none 0 0) ∨ ∃ x ∈ l, bv = x.2.bv ∧ rv = x.2.rv ∧ fv = x.2.fv) := by
  have hF : ∀ q1 q2, ∃ a1 a2 a3 bv rv fv fin lv lb, refFindV l (q1, q2) = .tuple #[.agg #[.int .u32 a1, .int .u32 a2, .int .i64 a3, bv, rv, fv, .int .i64 fin, .bool lv], .bool lb] ∧ (match idxL (pl l) (q1, q2) with | some j => (match l[j]? with | some y => y.1.fin == 4 | none => false) | none => false) = (lb && (fin == 4)) ∧ ((bv = .slice none 0 0 ∧ rv = .slice none 0 0 ∧ fv = .slice none 0 0) ∨ ∃ x ∈ l, bv = x.2.bv ∧ rv = x.2.rv ∧ fv = x.2.fv) := fun q1 q2 => by
    unfold refFindV
    cases hi : idxL (pl l) (q1, q2) with
    | none => exact ⟨_, _, _, _, _, _, _, _, _, rfl, rfl, .inl ⟨rfl, rfl, rfl⟩⟩
    | some j =>
      cases hl : l[j]? with
      | none => simp only [hl]; exact ⟨_, _, _, _, _, _, _, _, _, rfl, rfl, .inl ⟨rfl, rfl, rfl⟩⟩
      | some y => simp only [hl]; exact ⟨_, _, _, _, _, _, _, _, _, rfl, by simp, .inr ⟨y, List.mem_of_getElem? hl, rfl, rfl, rfl⟩⟩
  unfold refOutV refAsksB
  by_cases hx : ex < 0
  · simp only [if_pos hx]
    obtain ⟨a1, a2, a3, bv, rv, fv, fin, lv, lb, h1, -, h3⟩ := hF 0 0
    exact ⟨0, 0, 0, 0, false, rfl, a1, a2, a3, bv, rv, fv, fin, lv, lb, h1, by simp, h3⟩
  · simp only [if_neg hx]
    cases hq : refOut l ex with
    | none =>
      obtain ⟨a1, a2, a3, bv, rv, fv, fin, lv, lb, h1, -, h3⟩ := hF 0 0
      exact ⟨0, 0, 0, 0, false, rfl, a1, a2, a3, bv, rv, fv, fin, lv, lb, h1, by simp, h3⟩
    | some p =>
      obtain ⟨x, r⟩ := p
      obtain ⟨a1, a2, a3, bv, rv, fv, fin, lv, lb, h1, h2, h3⟩ := hF x.1.k1 x.1.k2
      exact ⟨_, _, _, _, true, rfl, a1, a2, a3, bv, rv, fv, fin, lv, lb, h1, by simp only [h2]; simp, h3⟩
def atR (x : Fb) (off : Int) : Option Rw := if x.1.live && decide (x.1.pos ≤ off) && decide (off < x.1.pos + (x.1.bs.length : Nat)) then x.1.rs.find? (fun q => q.off == off - x.1.pos) else none
def refAt (l : List Fb) (off : Int) : Option (Fb × Rw) := l.findSome? (fun x => (atR x off).map fun q => (x, q))
def refAtV (l : List Fb) (off : Int) : Value := match refAt l off with
  | some (x, q) => .tuple #[.agg #[.int .u32 x.1.k1, .int .u32 x.1.k2], rwV q, .bool true]
  | none => at0
section
variable {w w' : World} {N rb : Nat} {Vb : Value} {l : List Fb} {sz : Int}
attribute [local go_sem ↓] x_stKy x_stRw x_stLd x_stOu x_stRb x_stCd x_stBk x_stLk
attribute [local go_sem] st_Ky st_Rw st_Ld st_Ou st_Rb st_Cd st_Bk st_Lk ne_s1 en_s1 ne_s2 en_s2 ne_s3 en_s3 ne_s4 en_s4 ne_s5 en_s5 ne_s6 en_s6 ne_s7 en_s7 ne_s8 en_s8 lt_s2 lt_s3 lt_s4 lt_s5 lt_s6 lt_s7 lt_s8 rowAt_at rowAt_old rowAt_drew rowAt_drewN setRow_drew setRow_at setRow_old setRow_setRow rowAt_setRow_eq rowAt_setRow_ne cell_setRow_eq cell_setRow_ne frozen_setRow_eq frozen_setRow_ne ones_lit oc_int oc_bool oc_str oc_ptr oc_sl oc_map oc_fn oc_nf oc_ni oc_if
set_option maxRecDepth 100000 in
set_option maxHeartbeats 4000000 in
theorem rf_asks (h : IsRef w N rb Vb l sz) (hll : l.length ≤ 10000) (ex : Int) (hb : ∀ x ∈ l, 0 ≤ x.1.pos ∧ x.1.pos ≤ 1000000 ∧ x.1.rs.length ≤ 5000 ∧ ∀ r ∈ x.1.rs, 0 ≤ r.off ∧ r.off ≤ 1000000) :
    Calls Tryz.prog 45 #[.pointer (some ⟨rb, 0, none⟩), .int .i64 ex] w fun e w' => e = .returned (.bool (refAsksB l ex)) ∧ Same w w' := by
  have HO := hidE (rf_out h hll ex hb)
  have HH := hidE h
  obtain ⟨q1, q2, o, p, bb, hO, a1, a2, a3, bv, rv, fv, fin, lv, lb, hF, hA, hv⟩ := refOutV_parts l ex
  rw [hO] at HO
  have HA := hidE hA
  have HF := hidE hF
  obtain ⟨o1, o2, o3⟩ : bv.oneCell' = true ∧ rv.oneCell' = true ∧ fv.oneCell' = true := by
    rcases hv with ⟨rfl, rfl, rfl⟩ | ⟨x, hx, rfl, rfl, rfl⟩
    · exact ⟨rfl, rfl, rfl⟩
    · exact (h.fb x hx).ones
  clear h hO hA hF hv hb
  go_enter Tryz.func45, Tryz.ntmps45
  go_wp2_with fail
  refine HO.out.mono ?_
  rintro _ w1 ⟨rfl, hk⟩
  have HK1 := hidE (hk.alloc (.cells #[.int .u32 q1, .int .u32 q2] 31))
  have B1 := hidE (block_new w1 (.cells #[.int .u32 q1, .int .u32 q2] 31))
  have c1 := cell_of B1.out
  clear hk
  go_wp2_with fail
  obtain ⟨W, hW⟩ : ∃ W, w1.alloc (.cells #[.int .u32 q1, .int .u32 q2] 31) = W := ⟨_, rfl⟩
  rw [hW] at HK1 c1 ⊢
  refine (rf_find (HH.out.same HK1.out) hll q1 q2).mono ?_
  rintro _ w2 ⟨rfl, hk⟩
  rw [HF.out]
  have HK2 := hidE (HK1.out.trans hk)
  clear hk c1 hW
  cases bb <;> cases lb
  all_goals
    go_wp2
    go_ret
    rw [HA.out]
    exact ⟨by simp, HK2.out.alloc _⟩
end
end Go.Proofs.YtomphgpplbekiaaGreat
namespace Go.Proofs.YtomphgpplbekiaaGreat
open Go.RowKit
attribute [local go_sem ↓] Go.wp_at_zero Go.wp_at_succ
section
variable {w w' : World} {N rb : Nat} {Vb : Value} {l : List Fb} {sz : Int}
attribute [local go_sem ↓] x_stKy x_stRw x_stLd x_stOu x_stRb x_stCd x_stBk x_stLk
attribute [local go_sem] st_Ky st_Rw st_Ld st_Ou st_Rb st_Cd st_Bk st_Lk ne_s1 en_s1 ne_s2 en_s2 ne_s3 en_s3 ne_s4 en_s4 ne_s5 en_s5 ne_s6 en_s6 ne_s7 en_s7 ne_s8 en_s8 lt_s2 lt_s3 lt_s4 lt_s5 lt_s6 lt_s7 lt_s8 rowAt_at rowAt_old rowAt_drew rowAt_drewN setRow_drew setRow_at setRow_old setRow_setRow rowAt_setRow_eq rowAt_setRow_ne cell_setRow_eq cell_setRow_ne frozen_setRow_eq frozen_setRow_ne ones_lit oc_int oc_bool oc_str oc_ptr oc_sl oc_map oc_fn oc_nf oc_ni oc_if
attribute [local go_sem ↓] x_ldRb
set_option maxRecDepth 100000 in
set_option maxHeartbeats 4000000 in
theorem rf_at (h : IsRef w N rb Vb l sz) (hll : l.length ≤ 10000) (off : Int) (f0 : -9223372036854775808 ≤ off) (f1 : off ≤ 9223372036854775807) (hb : ∀ x ∈ l, 0 ≤ x.1.pos ∧ x.1.pos ≤ 1000000 ∧ x.1.bs.length ≤ 5000 ∧ x.1.rs.length ≤ 5000) :
    Calls Tryz.prog 43 #[.pointer (some ⟨rb, 0, none⟩), .int .i64 off] w fun e w' => e = .returned (refAtV l off) ∧ Same w w' := by
  obtain ⟨p, c, ebl⟩ := h.sl
  obtain ⟨W, hW⟩ : ∃ W, (w.alloc (.cells #[.int .u32 0, .int .u32 0] 31)).alloc (.cells #[.int .i64 0, .int .u32 0, .int .i64 0, .int .i64 0] 49) = W := ⟨_, rfl⟩
  have B0 : Hid (W.heap[w.heap.size]? = some (.cells #[.int .u32 0, .int .u32 0] 31 (0, 0))) := hidE (by rw [← hW]; exact block_old _ (block_new _ _))
  have B1 : Hid (W.heap[w.heap.size + 1]? = some (.cells #[.int .i64 0, .int .u32 0, .int .i64 0, .int .i64 0] 49 (0, 0))) := hidE (by rw [← hW]; exact block_atR _ (by simp))
  have HK0 : Hid (Same w W) := hidE (by rw [← hW]; exact ((Keeps.refl _ _).alloc _).alloc _)
  have HH := hidE (h.same HK0.out)
  clear h
  go_enter Tryz.func43, Tryz.ntmps43
  go_wp2_with fail
  try rw [hW]
  clear hW
  go_loopw [7] (fun t7 wr => ∃ k : Nat, k ≤ l.length ∧ t7 = .int .i64 (k : Int) ∧ refAt (l.take k) off = none ∧ Same W wr) (fun t7 _ => (l.length - intOf t7).toNat)
  case atStart => exact ⟨0, by omega, rfl, by simp [refAt], Keeps.refl _ _⟩
  case round =>
    obtain ⟨k, hk, rfl, hn, hs⟩ := hrel
    have HW := hidE hs
    clear hs
    have d0 := (HH.out.same HW.out).c 0
    simp only [refA, ebl] at d0
    by_cases hlt : k < l.length
    · have q0 : decide ((k : Int) < (l.length : Int)) = true := decide_eq_true (by omega)
      obtain ⟨x, hx9⟩ : ∃ x, l[k]? = some x := ⟨_, List.getElem?_eq_getElem hlt⟩
      obtain ⟨g, cap, e, n1, n2, hc⟩ := (HH.out.same HW.out).bk hx9
      rw [ebl] at e
      cases e
      have q1 : (k : Int) < (l.length : Int) := by omega
      have q3 : (0 : Int) ≤ (k : Int) := by omega
      have e1 := wrapI ((k : Int) + 1) (by omega) (by omega)
      obtain ⟨o1, o2, o3⟩ := ((HH.out.same HW.out).fb x (List.mem_of_getElem? hx9)).ones
      have hld := ld_at (P := Tryz.prog) (w := wr) (t := 62) (g := g) (o := k * 8) Tryz.underlying62 rfl infoRb (c := fbR x) rfl hc
      simp only [fbR] at hld
      obtain ⟨p0, p1, hbl, hrl⟩ := hb x (List.mem_of_getElem? hx9)
      obtain ⟨⟨B', hbow⟩, ⟨B, hrow⟩, -, -⟩ := (HH.out.same HW.out).fb x (List.mem_of_getElem? hx9)
      obtain ⟨rp, rc, erv⟩ := owns_slice hrow
      obtain ⟨bp, bc, ebv⟩ := owns_slice hbow
      have HR := hidE hrow
      have hst := some_step (p := fun x => (atR x off).map fun q => (x, q)) hx9 hn
      have HST := hidE hst
      rw [erv, ebv] at hld
      rw [erv] at o2
      rw [ebv] at o1
      have e2 := wrapI (x.1.pos + (x.1.bs.length : Nat)) (by omega) (by omega)
      clear hrow hbow hc hst hn
      have hskip : atR x off = none → refAt (l.take (k + 1)) off = none := fun h => HST.out.2 (by rw [h]; rfl)
      have HSK := hidE hskip
      clear hskip
      cases hl : x.1.live with
      | false =>
        rw [hl] at hld
        have hA : atR x off = none := by unfold atR; rw [hl]; rfl
        go_wp2_with fail
        exact ⟨⟨k + 1, by omega, by simp, HSK.out hA, HW.out.alloc _⟩, by simp only [intOf]; omega⟩
      | true =>
        rw [hl] at hld
        by_cases h1 : x.1.pos ≤ off
        · have s1 : decide (x.1.pos ≤ off) = true := decide_eq_true h1
          by_cases h2 : off < x.1.pos + (x.1.bs.length : Nat)
          · have s2 : decide (off < x.1.pos + (x.1.bs.length : Nat)) = true := decide_eq_true h2
            have e3 := wrapI (off - x.1.pos) (by omega) (by omega)
            have hA : atR x off = x.1.rs.find? (fun q => q.off == off - x.1.pos) := by unfold atR; rw [hl, s1, s2]; rfl
            have HA := hidE hA
            clear hA
            have B9 := hidE (block_new wr (.cells #[.int .u32 x.1.k1, .int .u32 x.1.k2, .int .i64 x.1.pos, .slice bp x.1.bs.length bc, .slice rp x.1.rs.length rc, x.2.fv, .int .i64 x.1.fin, .bool true] 62))
            have B09 := hidE (block_old (.cells #[.int .u32 x.1.k1, .int .u32 x.1.k2, .int .i64 x.1.pos, .slice bp x.1.bs.length bc, .slice rp x.1.rs.length rc, x.2.fv, .int .i64 x.1.fin, .bool true] 62) (HW.out.get B0.out id))
            have B19 := hidE (block_old (.cells #[.int .u32 x.1.k1, .int .u32 x.1.k2, .int .i64 x.1.pos, .slice bp x.1.bs.length bc, .slice rp x.1.rs.length rc, x.2.fv, .int .i64 x.1.fin, .bool true] 62) (HW.out.get B1.out id))
            have HK9 := hidE (HW.out.alloc (.cells #[.int .u32 x.1.k1, .int .u32 x.1.k2, .int .i64 x.1.pos, .slice bp x.1.bs.length bc, .slice rp x.1.rs.length rc, x.2.fv, .int .i64 x.1.fin, .bool true] 62))
            have HR9 := hidE (owns_apart HR.out ((Keeps.refl (fun _ => False) wr).alloc (.cells #[.int .u32 x.1.k1, .int .u32 x.1.k2, .int .i64 x.1.pos, .slice bp x.1.bs.length bc, .slice rp x.1.rs.length rc, x.2.fv, .int .i64 x.1.fin, .bool true] 62)) (fun _ _ => id))
            go_wp2_with fail
            obtain ⟨W9, hW9⟩ : ∃ W9, wr.alloc (.cells #[.int .u32 x.1.k1, .int .u32 x.1.k2, .int .i64 x.1.pos, .slice bp x.1.bs.length bc, .slice rp x.1.rs.length rc, x.2.fv, .int .i64 x.1.fin, .bool true] 62) = W9 := ⟨_, rfl⟩
            rw [hW9] at HK9 HR9 B9 B09 B19 ⊢
            have h9 := HR9.out
            rw [erv] at h9
            clear hW9 hld
            refine (r21_find W9 B (.slice rp x.1.rs.length rc) x.1.rs h9 (by omega) (off - x.1.pos)).mono ?_
            rintro _ w2 ⟨rfl, hk2⟩
            have HK2 := hidE (HK9.out.trans hk2)
            have B92 := hidE (hk2.get B9.out id)
            have B02 := hidE (hk2.get B09.out id)
            have B12 := hidE (hk2.get B19.out id)
            clear hk2 h9 d0
            cases hf : x.1.rs.find? (fun q => q.off == off - x.1.pos) with
            | none =>
              have hv : findV x.1.rs (off - x.1.pos) = .tuple #[.agg rowZ, .bool false] := by unfold findV; rw [hf]
              rw [hv]
              simp only [rowZ]
              rw [hf] at HA
              go_wp2_with fail
              exact ⟨⟨k + 1, by omega, by simp, HSK.out HA.out, HK2.out.alloc _⟩, by simp only [intOf]; omega⟩
            | some q =>
              have hv : findV x.1.rs (off - x.1.pos) = .tuple #[rwV q, .bool true] := by unfold findV; rw [hf]
              rw [hv]
              simp only [rwV]
              rw [hf] at HA
              have HV : Hid (refAtV l off = .tuple #[.agg #[.int .u32 x.1.k1, .int .u32 x.1.k2], rwV q, .bool true]) := hidE (by
                unfold refAtV
                have : refAt l off = some (x, q) := HST.out.1 _ (by rw [HA.out]; rfl)
                rw [this])
              go_wp2_with fail
              have B3 := hidE (block_new w2 (.cells #[.int .i64 q.off, .int .u32 q.pc, .int .i64 q.dn, .int .i64 q.ex] 49))
              have B93 := hidE (block_old (.cells #[.int .i64 q.off, .int .u32 q.pc, .int .i64 q.dn, .int .i64 q.ex] 49) B92.out)
              have B03 := hidE (block_old (.cells #[.int .i64 q.off, .int .u32 q.pc, .int .i64 q.dn, .int .i64 q.ex] 49) B02.out)
              have B13 := hidE (block_old (.cells #[.int .i64 q.off, .int .u32 q.pc, .int .i64 q.dn, .int .i64 q.ex] 49) B12.out)
              have HK3 := hidE ((HK0.out.trans HK2.out).alloc (.cells #[.int .i64 q.off, .int .u32 q.pc, .int .i64 q.dn, .int .i64 q.ex] 49))
              have tk := tg_cells B03.out
              have m1 : wr.heap.size ≠ w.heap.size := ne_tg (tg_cells B93.out) tk (by decide)
              have m2 : w2.heap.size ≠ w.heap.size := ne_tg (tg_cells B3.out) tk (by decide)
              have m3 : w.heap.size + 1 ≠ w.heap.size := by omega
              obtain ⟨W3, hW3⟩ : ∃ W3, w2.alloc (.cells #[.int .i64 q.off, .int .u32 q.pc, .int .i64 q.dn, .int .i64 q.ex] 49) = W3 := ⟨_, rfl⟩
              rw [hW3] at B3 B93 B03 B13 HK3 ⊢
              clear hW3
              refine wp_region_ra [0, 1, 2] [3, 4, 5] 1 (SR W3 w.heap.size 1) (by kernel_rfl) (by kernel_rfl) SR.same (SR.init (by rw [rowAt_of B03.out]; rfl)) ?_
              simp only [opsOf, List.filterMap_cons, List.filterMap_nil, List.getElem?_cons_zero, List.getElem?_cons_succ]
              repeat (first | (refine seqV_run (v := ?_) rfl (fun u hu => ?_) ?_; rotate_left; (focus (have d1 := cell_of (hu.k.get B93.out m1); have d2 := cell_of (hu.k.get B3.out m2); clear hu; go_simp; first | done | with_reducible rfl)); (try simp only [Act.put, List.setIfInBounds_toArray, List.set_cons_zero, List.set_cons_succ])) | (refine seqV_no rfl ?_; (try simp only [Act.put, List.setIfInBounds_toArray, List.set_cons_zero, List.set_cons_succ])))
              refine seqV_nil ?_
              refine tailR_row (A := #[.int .u32 x.1.k1, .int .u32 x.1.k2]) rfl rfl (fun u hu => ?_) ?_
              · have hz9 : (rowAt u w.heap.size).size = 2 := hu.z
                clear hu
                go_simp
              (try simp only [Act.put])
              refine tailR_zero fun u9 hu hp => ?_
              (try simp only [Act.put, List.setIfInBounds_toArray, List.set_cons_zero, List.set_cons_succ])
              have r19 := rowAt_of (hu.k.get B13.out m3)
              have l19 := lt_of_block (hu.k.get B13.out m3)
              have HK8 := hidE (same_then HK3.out hu.k (fun k e => by subst e; exact Nat.le_refl _))
              have hp9 := hp
              clear hu hp
              go_wp2
              refine post_cct (v := .bool true) (A := #[.int .u32 x.1.k1, .int .u32 x.1.k2]) (A' := #[.int .i64 q.off, .int .u32 q.pc, .int .i64 q.dn, .int .i64 q.ex]) rfl Tryz.underlying31 rfl (n := 1) (by kernel_rfl) Tryz.underlying49 rfl (n' := 3) (by kernel_rfl) rfl rfl rfl rfl (by go_simp) (by go_simp) rfl rfl ?_
              rw [HV.out]
              exact ⟨rfl, HK8.out.setRow (fun h => absurd h (by omega)) _⟩
          · have s2 : decide (off < x.1.pos + (x.1.bs.length : Nat)) = false := decide_eq_false h2
            have hA : atR x off = none := by unfold atR; rw [s2]; simp
            go_wp2_with fail
            exact ⟨⟨k + 1, by omega, by simp, HSK.out hA, HW.out.alloc _⟩, by simp only [intOf]; omega⟩
        · have s1 : decide (x.1.pos ≤ off) = false := decide_eq_false h1
          have hA : atR x off = none := by unfold atR; rw [s1]; simp
          go_wp2_with fail
          exact ⟨⟨k + 1, by omega, by simp, HSK.out hA, HW.out.alloc _⟩, by simp only [intOf]; omega⟩
    · obtain rfl : k = l.length := by omega
      have q0 : decide ((l.length : Int) < (l.length : Int)) = false := by simp
      have r2 := rowAt_of (HW.out.get B0.out id)
      have r3 := rowAt_of (HW.out.get B1.out id)
      have l2 := lt_of_block (HW.out.get B0.out id)
      have l3 := lt_of_block (HW.out.get B1.out id)
      have HV : Hid (refAtV l off = at0) := hidE (by
        unfold refAtV
        rw [List.take_length] at hn
        rw [hn])
      go_wp2
      refine post_cct (v := .bool false) rfl Tryz.underlying31 rfl (n := 1) (by kernel_rfl) Tryz.underlying49 rfl (n' := 3) (by kernel_rfl) rfl rfl rfl rfl (by go_simp; rfl) (by go_simp; rfl) rfl rfl ?_
      rw [HV.out]
      exact ⟨rfl, ((HK0.out.trans HW.out).setRow (fun h => absurd h (by omega)) _).setRow (fun h => absurd h (by omega)) _⟩
end
end Go.Proofs.YtomphgpplbekiaaGreat
