/- A cache that is not there, and one that no call made: all of its functions but those that range over blocks. A cache: New, Flush, Find, Used, Counts. A cache: Find. -/
import Derived.Test.YtomphgpplbekiaaGreatCm
import Derived.Test.YtomphgpplbekiaaGreatSt
import Derived.Test.YtomphgpplbekiaaGreatOnce
namespace Go.Proofs.YtomphgpplbekiaaGreat
open Go.RowKit
attribute [local go_sem ↓] Go.wp_at_zero Go.wp_at_succ

/-- No cache: nil, or one without a memory. -/
def NoC (w : World) (v : Value) : Prop := v = .pointer none ∨ ∃ g, v = .pointer (some ⟨g, 0, none⟩) ∧ w.cell? ⟨g, 0, none⟩ = some (.pointer none)
theorem NoC.keeps {F : Nat → Prop} {w w' : World} {v : Value} (h : NoC w v) (k : Keeps F w w') (hF : ∀ g, v = .pointer (some ⟨g, 0, none⟩) → ¬ F g) : NoC w' v := by
  rcases h with h | ⟨g, rfl, hc⟩
  · exact .inl h
  · exact .inr ⟨g, rfl, cellK k (hF g rfl) hc⟩
theorem NoC.same {w w' : World} {v : Value} (h : NoC w v) (k : Same w w') : NoC w' v := h.keeps k (fun _ _ => id)
theorem cn_none (w : World) (v : Value) (h : NoC w v) : Calls Tryz.prog 47 #[v] w fun e w' => e = .returned (.bool true) ∧ w = w' := by
  rcases h with rfl | ⟨g, rfl, hc⟩
  all_goals
    go_enter Tryz.func47, Tryz.ntmps47
    go_wp2_with fail
    go_ret
    exact ⟨rfl, rfl⟩
theorem cs_none {w : World} {N cb : Nat} {R : RamAt} {M : List Int} {V : CV} {l : List Fb} {hi mi : Int} (h : IsCache w N cb R M V l hi mi) : Calls Tryz.prog 47 #[.pointer (some ⟨cb, 0, none⟩)] w fun e w' => e = .returned (.bool false) ∧ w = w' := by
  have c0 := h.c 0
  simp only [cacheA] at c0
  clear h
  go_enter Tryz.func47, Tryz.ntmps47
  go_wp2_with fail
  go_ret
  exact ⟨rfl, rfl⟩
theorem cn_flush (w : World) (v : Value) (h : NoC w v) : Calls Tryz.prog 37 #[v] w fun e w' => e = .returned (.tuple #[]) ∧ w = w' := by
  have HN := hidE (cn_none w v h)
  clear h
  go_enter Tryz.func37, Tryz.ntmps37
  go_wp2_with fail
  refine HN.out.mono ?_
  rintro _ w1 ⟨rfl, rfl⟩
  go_wp2
  (try simp only [Exit.inBlock, Exit.then])
  exact bodyPost_ret (results_none rfl _ _ _) rfl ⟨rfl, rfl⟩
theorem cn_used (w : World) (v : Value) (h : NoC w v) : Calls Tryz.prog 19 #[v] w fun e w' => e = .returned (.int .i64 0) ∧ w = w' := by
  have HN := hidE (cn_none w v h)
  clear h
  go_enter Tryz.func19, Tryz.ntmps19
  go_wp2_with fail
  refine HN.out.mono ?_
  rintro _ w1 ⟨rfl, rfl⟩
  go_wp2
  go_ret
  exact ⟨rfl, rfl⟩
theorem cn_counts (w : World) (v : Value) (h : NoC w v) : Calls Tryz.prog 31 #[v] w fun e w' => e = .returned (.tuple #[.int .i64 0, .int .i64 0]) ∧ w = w' := by
  have HN := hidE (cn_none w v h)
  clear h
  go_enter Tryz.func31, Tryz.ntmps31
  go_wp2_with fail
  refine HN.out.mono ?_
  rintro _ w1 ⟨rfl, rfl⟩
  go_wp2
  go_ret2
  exact ⟨rfl, rfl⟩
theorem cn_find (w : World) (v : Value) (k1 k2 : Int) (h : NoC w v) : Calls Tryz.prog 17 #[v, .agg #[.int .u32 k1, .int .u32 k2]] w fun e w' => e = .returned (.tuple #[.int .i64 0, .bool false]) ∧ Same w w' := by
  have k0 := (Keeps.refl (fun _ => False) w).alloc (.cells #[.int .u32 k1, .int .u32 k2] 31)
  have HN := hidE (cn_none _ v (h.same k0))
  have HK := hidE k0
  clear h k0
  go_enter Tryz.func17, Tryz.ntmps17
  go_wp2_with fail
  refine HN.out.mono ?_
  rintro _ w1 ⟨rfl, rfl⟩
  go_wp2
  go_ret2
  exact ⟨rfl, HK.out⟩
theorem cn_put (w : World) (v : Value) (k1 k2 : Int) (b : Bk) (h : NoC w v) : Calls Tryz.prog 38 #[v, .agg #[.int .u32 k1, .int .u32 k2], .agg (bkA b)] w fun e w' => e = .returned (.tuple #[.int .i64 0, .int .i64 1]) ∧ Same w w' := by
  simp only [bkA]
  have k0 := ((Keeps.refl (fun _ => False) w).alloc (.cells #[.int .u32 k1, .int .u32 k2] 31)).alloc (.cells (bkA b) 36)
  simp only [bkA] at k0
  have HN := hidE (cn_none _ v (h.same k0))
  have HK := hidE k0
  clear h k0
  go_enter Tryz.func38, Tryz.ntmps38
  go_wp2_with fail
  refine HN.out.mono ?_
  rintro _ w1 ⟨rfl, rfl⟩
  go_wp2
  go_ret2
  exact ⟨rfl, HK.out⟩
theorem cn_exits (w : World) (v : Value) (k1 k2 : Int) (h : NoC w v) : Calls Tryz.prog 12 #[v, .agg #[.int .u32 k1, .int .u32 k2]] w fun e w' => e = .returned (.slice none 0 0) ∧ Same w w' := by
  have k0 := (Keeps.refl (fun _ => False) w).alloc (.cells #[.int .u32 k1, .int .u32 k2] 31)
  have HN := hidE (cn_none _ v (h.same k0))
  have HK := hidE k0
  clear h k0
  go_enter Tryz.func12, Tryz.ntmps12
  go_wp2_with fail
  refine HN.out.mono ?_
  rintro _ w1 ⟨rfl, rfl⟩
  go_wp2
  go_ret
  exact ⟨rfl, HK.out⟩
def keyZ : Array Value := #[.int .u32 0, .int .u32 0]
def rowZ : Array Value := #[.int .i64 0, .int .u32 0, .int .i64 0, .int .i64 0]
def laidZ : Array Value := #[.int .u32 0, .int .u32 0, .int .i64 0, .slice none 0 0, .slice none 0 0, .int .i64 0, .slice none 0 0, .bool false]
def outZ : Array Value := #[.int .u32 0, .int .u32 0, .int .i64 0, .int .u32 0]
set_option maxRecDepth 100000 in
theorem cn_at (w : World) (v : Value) (x : Int) (h : NoC w v) : Calls Tryz.prog 15 #[v, .int .i64 x] w fun e w' => e = .returned (.tuple #[.agg keyZ, .agg rowZ, .bool false]) ∧ Same w w' := by
  obtain ⟨pv, rfl⟩ : ∃ p, v = .pointer p := by rcases h with rfl | ⟨g, rfl, -⟩ <;> exact ⟨_, rfl⟩
  have k0 := ((((Keeps.refl (fun _ => False) w).alloc (.cells #[.pointer pv] 23)).alloc (.cells #[.int .i64 x] 3)).alloc (.cells keyZ 31)).alloc (.cells rowZ 49)
  simp only [keyZ, rowZ] at k0
  have HN := hidE (cn_none _ _ (h.same k0))
  have HK := hidE k0
  clear h k0
  go_enter Tryz.func15, Tryz.ntmps15
  go_wp2_with fail
  refine HN.out.mono ?_
  rintro _ w1 ⟨rfl, rfl⟩
  go_wp2
  refine post_cct rfl Tryz.underlying31 rfl (n := 1) (by kernel_rfl) Tryz.underlying49 rfl (n' := 3) (by kernel_rfl) rfl rfl rfl rfl ?_ ?_ rfl rfl ⟨rfl, HK.out⟩
  · rw [rowAt_old _ _ _ (by simp), rowAt_at _ _ _ _ (by simp)]; rfl
  · rw [rowAt_at _ _ _ _ (by simp)]; rfl
section
attribute [local go_sem ↓] x_stKy x_stRw x_stLd x_stOu x_stRb x_stCd x_stBk x_stLk
attribute [local go_sem] st_Ky st_Rw st_Ld st_Ou st_Rb st_Cd st_Bk st_Lk ne_s1 en_s1 ne_s2 en_s2 ne_s3 en_s3 ne_s4 en_s4 ne_s5 en_s5 ne_s6 en_s6 ne_s7 en_s7 ne_s8 en_s8 lt_s2 lt_s3 lt_s4 lt_s5 lt_s6 lt_s7 lt_s8 rowAt_at rowAt_old rowAt_drew rowAt_drewN setRow_drew setRow_at setRow_old setRow_setRow rowAt_setRow_eq rowAt_setRow_ne cell_setRow_eq cell_setRow_ne frozen_setRow_eq frozen_setRow_ne ones_lit oc_int oc_bool oc_str oc_ptr oc_sl oc_map oc_fn oc_nf oc_ni oc_if
set_option maxRecDepth 100000 in
theorem cn_owned (w : World) (v : Value) (x : Int) (h : NoC w v) : Calls Tryz.prog 49 #[v, .int .i64 x] w fun e w' => e = .returned (.tuple #[.agg laidZ, .bool false]) ∧ Same w w' := by
  have HH := hidE h
  have HK := hidE ((Keeps.refl (fun _ => False) w).alloc (.cells laidZ 112))
  clear h
  simp only [laidZ] at *
  go_enter Tryz.func49, Tryz.ntmps49
  go_wp2_with fail
  refine wp_region_ra [0, 1, 2, 3, 4, 5, 6, 7, 8, 9, 10, 11, 12, 13, 14, 15, 16, 17, 18, 19, 20, 21, 22, 23, 24, 25, 26, 27, 28, 29, 30] [] 0 (Same _) (by kernel_rfl) (by kernel_rfl) (fun u u' h k => Keeps.trans h k) (Keeps.refl _ _).drew ?_; simp only [opsOf, List.filterMap_cons, List.filterMap_nil, List.getElem?_cons_zero, List.getElem?_cons_succ]
  repeat (first | (refine seqV_run (v := ?_) rfl (fun u hu => ?_) ?_; rotate_left; (focus (clear hu; go_simp; first | done | with_reducible rfl)); (try simp only [Act.put, List.setIfInBounds_toArray, List.set_cons_zero, List.set_cons_succ])) | (refine seqV_no rfl ?_; (try simp only [Act.put, List.setIfInBounds_toArray, List.set_cons_zero, List.set_cons_succ])))
  (refine seqV_call (f := 47) (args := #[v]) (v := .bool true) rfl (fun u hu => ?_) (fun u hu => (cn_none u v (HH.out.same (HK.out.trans hu))).mono (by rintro _ _ ⟨rfl, rfl⟩; exact ⟨rfl, Keeps.refl _ _⟩)) ?_; (focus (clear hu; go_simp)); (try simp only [Act.put, List.setIfInBounds_toArray, List.set_cons_zero, List.set_cons_succ]))
  repeat (first | (refine seqV_run (v := ?_) rfl (fun u hu => ?_) ?_; rotate_left; (focus (clear hu; go_simp; first | done | with_reducible rfl)); (try simp only [Act.put, List.setIfInBounds_toArray, List.set_cons_zero, List.set_cons_succ])) | (refine seqV_no rfl ?_; (try simp only [Act.put, List.setIfInBounds_toArray, List.set_cons_zero, List.set_cons_succ])))
  refine seqV_nil ?_
  refine tailR_zero fun u5 hu _ => ?_
  (try simp only [Act.put, List.setIfInBounds_toArray, List.set_cons_zero, List.set_cons_succ])
  have b5 := hu.get (block_new w (.cells #[.int .u32 0, .int .u32 0, .int .i64 0, .slice none 0 0, .slice none 0 0, .int .i64 0, .slice none 0 0, .bool false] 112)) id
  have HK5 := hidE (HK.out.trans hu)
  have r5 := rowAt_of b5
  clear hu b5
  go_wp2
  refine post_row1 rfl Tryz.underlying112 rfl infoLd rfl rfl rfl (by go_simp) rfl ⟨rfl, ?_⟩
  exact HK5.out.setRow (fun h => absurd h (by simp)) _
set_option maxRecDepth 100000 in
theorem cn_asks (w : World) (v : Value) (x : Int) (h : NoC w v) : Calls Tryz.prog 39 #[v, .int .i64 x] w fun e w' => e = .returned (.bool false) ∧ Same w w' := by
  have HO := hidE (cn_owned w v x h)
  clear h
  simp only [laidZ] at *
  go_enter Tryz.func39, Tryz.ntmps39
  go_wp2_with fail
  refine HO.out.mono ?_
  rintro _ w1 ⟨rfl, hk⟩
  have HK1 := hidE hk
  clear hk
  go_wp2
  go_ret
  exact ⟨rfl, HK1.out.alloc _⟩
set_option maxRecDepth 100000 in
theorem cn_out (w : World) (v : Value) (x : Int) (h : NoC w v) : Calls Tryz.prog 13 #[v, .int .i64 x] w fun e w' => e = .returned (.tuple #[.agg outZ, .bool false]) ∧ Same w w' := by
  have k0 := (Keeps.refl (fun _ => False) w).alloc (.cells outZ 43)
  have HO := hidE (cn_owned _ v x (h.same k0))
  have B0 := hidE (block_new w (.cells outZ 43))
  have HK0 := hidE k0
  clear h k0
  simp only [laidZ, outZ] at *
  go_enter Tryz.func13, Tryz.ntmps13
  go_wp2_with fail
  refine HO.out.mono ?_
  rintro _ w1 ⟨rfl, hk⟩
  have r1 := rowAt_of (hk.get B0.out id)
  have l1 := lt_of_block (hk.get B0.out id)
  have HK1 := hidE (HK0.out.trans hk)
  clear hk
  go_wp2
  refine post_row1 rfl Tryz.underlying43 rfl infoOu rfl rfl rfl (by go_simp) rfl ⟨rfl, ?_⟩
  exact (HK1.out.setRow (fun h => absurd h (by simp)) _).alloc _
end
end Go.Proofs.YtomphgpplbekiaaGreat
namespace Go.Proofs.YtomphgpplbekiaaGreat
open Go.RowKit
attribute [local go_sem ↓] Go.wp_at_zero Go.wp_at_succ

theorem add64_any (w : World) (g o : Nat) (x : Int) (hc : w.cell? ⟨g, o, none⟩ = some (.int .i64 x)) (hz : w.frozen? ⟨g, o, none⟩ = false) (h0 : 0 ≤ x) (h1 : x < 1000000) :
    Calls Tryz.prog 55 #[.pointer (some ⟨g, o, none⟩), .int .i64 1] w fun e w' => e = .returned (.int .i64 (x + 1)) ∧ w' = w.setCell ⟨g, o, none⟩ (.int .i64 (x + 1)) := by
  have e0 := wrapI (x + 1) (by omega) (by omega)
  have hadd := run_call_add (P := Tryz.prog) Tryz.func83 (by kernel_rfl) (by kernel_rfl) (by kernel_rfl) .i64 (by kernel_rfl) (y := 1) (s := x + 1) hc hz (by go_simp)
  go_enter Tryz.func55, Tryz.ntmps55
  go_wp2_with fail
  go_ret
  exact ⟨rfl, rfl⟩
theorem load64_any (w : World) (g o : Nat) (x : Int) (hc : w.cell? ⟨g, o, none⟩ = some (.int .i64 x)) :
    Calls Tryz.prog 68 #[.pointer (some ⟨g, o, none⟩)] w fun e w' => e = .returned (.int .i64 x) ∧ w' = w := by
  have hadd := run_call_load (P := Tryz.prog) Tryz.func94 (by kernel_rfl) (by kernel_rfl) (by kernel_rfl) .i64 (by kernel_rfl) hc
  go_enter Tryz.func68, Tryz.ntmps68
  go_wp2_with fail
  go_ret
  exact ⟨rfl, rfl⟩
theorem mk_live (w : World) : (Instr.makeMap 93 none).run Tryz.prog w = .ok (.map (some w.heap.size)) (w.alloc (.map #[] 0)) := rfl
set_option maxRecDepth 100000 in
/-- Flush, of whatever lies in the cache's block. -/
theorem flush_raw (w : World) (cb : Nat) (p : Addr) (bl lm ow us hi mi : Value) (hb : w.heap[cb]? = some (.cells #[.pointer (some p), bl, lm, ow, us, hi, mi] 100 (0, 0))) :
    Calls Tryz.prog 37 #[.pointer (some ⟨cb, 0, none⟩)] w fun e w' => e = .returned (.tuple #[]) ∧ w'.heap[cb]? = some (.cells #[.pointer (some p), .slice none 0 0, .map (some w.heap.size), .slice none 0 0, .int .i64 0, hi, mi] 100 (0, 0)) ∧ w'.heap[w.heap.size]? = some (.map #[] 0) ∧ Keeps (fun k => k = cb) w w' := by
  have c0 := cell_of hb
  have f0 := frozen_of hb
  have HB := hidE hb
  have mm := mk_live
  have hlt := lt_of_block hb
  have n1 : w.heap.size ≠ cb := by omega
  have n2 : cb ≠ w.heap.size := by omega
  clear hb
  have hn : Calls Tryz.prog 47 #[.pointer (some ⟨cb, 0, none⟩)] w fun e w' => e = .returned (.bool false) ∧ w = w' := by
    go_enter Tryz.func47, Tryz.ntmps47
    go_wp2_with fail
    go_ret
    exact ⟨rfl, rfl⟩
  have HN := hidE hn
  clear hn
  go_enter Tryz.func37, Tryz.ntmps37
  go_wp2_with fail
  refine HN.out.mono ?_
  rintro _ w1 ⟨rfl, rfl⟩
  go_wp2
  go_end0
  refine ⟨rfl, block_old _ (block_set (block_set (block_set (block_set HB.out 1 _) 3 _) 4 _) 2 _), block_atR _ (by simp [World.setCell]), ?_⟩
  have k1 := (((Keeps.refl (fun k => k = cb) w).setCell (p := ⟨cb, 1, none⟩) (fun _ => rfl) (.slice none 0 0)).setCell (p := ⟨cb, 3, none⟩) (fun _ => rfl) (.slice none 0 0)).setCell (p := ⟨cb, 4, none⟩) (fun _ => rfl) (.int .i64 0)
  exact (k1.setCell (p := ⟨cb, 2, none⟩) (fun _ => rfl) _).alloc _
theorem is_empty {w : World} {N cb mb : Nat} {R : RamAt} {M : List Int} {hi mi : Int} (hb : w.heap[cb]? = some (.cells #[.pointer (some ⟨R.b, 0, none⟩), .slice none 0 0, .map (some mb), .slice none 0 0, .int .i64 0, .int .i64 hi, .int .i64 mi] 100 (0, 0))) (hm : w.heap[mb]? = some (.map #[] 0)) (hr : IsRam w R M)
    (h1 : N ≤ cb) (h2 : N ≤ mb) (h3 : N ≤ R.A) : IsCache w N cb R M ⟨.slice none 0 0, .slice none 0 0, mb⟩ [] hi mi where
  hb := hb
  ram := hr
  bl := RowX.nil
  ow := World.ownsRow_nil _ _ _ _
  mp := ⟨#[], 0, hm, rfl⟩
  fb := by simp
  ro := by simp
  far := by
    rintro k (rfl | h | h | rfl | rfl)
    · exact h1
    · cases h
    · cases h
    · exact h2
    · exact h3
section
variable {w : World} {N cb : Nat} {R : RamAt} {M : List Int} {V : CV} {l : List Fb} {hi mi : Int}
theorem cs_flush (h : IsCache w N cb R M V l hi mi) (hN : N ≤ w.heap.size) : Calls Tryz.prog 37 #[.pointer (some ⟨cb, 0, none⟩)] w fun e w' => e = .returned (.tuple #[]) ∧ IsCache w' N cb R M ⟨.slice none 0 0, .slice none 0 0, w.heap.size⟩ [] hi mi ∧ Keeps (fun k => k = cb) w w' := by
  refine (flush_raw w cb ⟨R.b, 0, none⟩ _ _ _ _ _ _ h.hb).mono ?_
  rintro e w' ⟨rfl, h1, h2, h3⟩
  have d1 : R.b ≠ cb := fun e => by have := h.ram.hb; rw [e, h.hb] at this; cases this
  have d2 : R.S ≠ cb := fun e => by obtain ⟨cs, this, -⟩ := h.ram.hS; rw [e, h.hb] at this; cases this
  have d3 : R.A ≠ cb := fun e => by have := h.ram.hA; rw [e, h.hb] at this; simp only [Option.some.injEq, Obj.cells.injEq] at this; exact absurd this.2.1 (by decide)
  exact ⟨rfl, is_empty h1 h2 (h.ram.keeps h3 d1 d2 d3) (h.far cb (.inl rfl)) hN (h.far R.A (.inr (.inr (.inr (.inr rfl))))), h3⟩
set_option maxRecDepth 100000 in
theorem cs_new (w : World) (R : RamAt) (M : List Int) (H : IsRam w R M) (N : Nat) (hN : N ≤ w.heap.size) (hA : N ≤ R.A) : Calls Tryz.prog 28 #[.pointer (some ⟨R.b, 0, none⟩)] w fun e w' => ∃ cb V, e = .returned (.tuple #[.pointer (some ⟨cb, 0, none⟩), .int .i64 0]) ∧ IsCache w' N cb R M V [] 0 0 ∧ Same w w' ∧ w.heap.size ≤ cb := by
  have HR := hidE H
  have n1 := H.n1
  have n2 := H.n2
  have q0 : (64 * (R.n : Int) == 0) = false := beq_eq_false_iff_ne.2 (by omega)
  clear H
  go_enter Tryz.func28, Tryz.ntmps28
  go_wp2_with fail
  refine (size_ram _ HR.out).mono ?_
  rintro _ w1 ⟨rfl, rfl⟩
  go_wp2_with fail
  refine (flush_raw _ w.heap.size ⟨R.b, 0, none⟩ _ _ _ _ _ _ (block_new _ _)).mono ?_
  rintro e w' ⟨rfl, h1, h2, h3⟩
  have H1 := hidE h1
  have H2 := hidE h2
  have H3 := hidE h3
  clear h1 h2 h3
  go_wp2
  go_ret2
  have hk : Same w w' := same_then ((Keeps.refl (fun _ => False) w).alloc _) H3.out (fun k e => by subst e; exact Nat.le_refl _)
  exact ⟨w.heap.size, _, rfl, is_empty H1.out H2.out (HR.out.same hk) hN (by simp; omega) hA, hk, Nat.le_refl _⟩
theorem cs_new_nil (w : World) : Calls Tryz.prog 28 #[.pointer none] w fun e w' => e = .returned (.tuple #[.pointer none, .int .i64 1]) ∧ w = w' := by
  go_enter Tryz.func28, Tryz.ntmps28
  go_wp2_with fail
  refine (size_nil _).mono ?_
  rintro _ w1 ⟨rfl, rfl⟩
  go_wp2
  go_ret2
  exact ⟨rfl, rfl⟩
theorem cs_used (h : IsCache w N cb R M V l hi mi) : Calls Tryz.prog 19 #[.pointer (some ⟨cb, 0, none⟩)] w fun e w' => e = .returned (.int .i64 (usedL (pl l) : Nat)) ∧ w = w' := by
  have HN := hidE (cs_none h)
  have c4 := h.c 4
  simp only [cacheA] at c4
  clear h
  go_enter Tryz.func19, Tryz.ntmps19
  go_wp2_with fail
  refine HN.out.mono ?_
  rintro _ w1 ⟨rfl, rfl⟩
  go_wp2
  go_ret
  exact ⟨rfl, rfl⟩
set_option maxRecDepth 100000 in
theorem cs_counts (h : IsCache w N cb R M V l hi mi) (_h0 : 0 ≤ hi ∧ hi < 1000000) (_h1 : 0 ≤ mi ∧ mi < 1000000) : Calls Tryz.prog 31 #[.pointer (some ⟨cb, 0, none⟩)] w fun e w' => e = .returned (.tuple #[.int .i64 hi, .int .i64 mi]) ∧ Same w w' := by
  have HN := hidE (cs_none h)
  have HH := hidE h
  clear h
  go_enter Tryz.func31, Tryz.ntmps31
  go_wp2_with fail
  refine HN.out.mono ?_
  rintro _ w1 ⟨rfl, rfl⟩
  go_wp2_with fail
  refine wp_region_ra [0, 1, 2, 3, 4, 5, 6, 7, 8, 9] [] 0 (Same _) (by kernel_rfl) (by kernel_rfl) (fun u u' h k => Keeps.trans h k) (Keeps.refl _ _).drew ?_; simp only [opsOf, List.filterMap_cons, List.filterMap_nil, List.getElem?_cons_zero, List.getElem?_cons_succ]
  repeat (first | (refine seqV_run (v := ?_) rfl (fun u hu => ?_) ?_; rotate_left; (focus (clear hu; go_simp; first | done | with_reducible rfl)); (try simp only [Act.put, List.setIfInBounds_toArray, List.set_cons_zero, List.set_cons_succ])) | (refine seqV_no rfl ?_; (try simp only [Act.put, List.setIfInBounds_toArray, List.set_cons_zero, List.set_cons_succ])))
  (refine seqV_call (f := 68) (args := #[.pointer (some ⟨cb, 5, none⟩)]) (v := .int .i64 hi) rfl (fun u hu => ?_) (fun u hu => (load64_any u cb 5 hi ((HH.out.same hu).c 5)).mono (by rintro _ _ ⟨rfl, rfl⟩; exact ⟨rfl, Keeps.refl _ _⟩)) ?_; (focus (clear hu; go_simp)); (try simp only [Act.put, List.setIfInBounds_toArray, List.set_cons_zero, List.set_cons_succ]))
  repeat (first | (refine seqV_run (v := ?_) rfl (fun u hu => ?_) ?_; rotate_left; (focus (clear hu; go_simp; first | done | with_reducible rfl)); (try simp only [Act.put, List.setIfInBounds_toArray, List.set_cons_zero, List.set_cons_succ])) | (refine seqV_no rfl ?_; (try simp only [Act.put, List.setIfInBounds_toArray, List.set_cons_zero, List.set_cons_succ])))
  (refine seqV_call (f := 68) (args := #[.pointer (some ⟨cb, 6, none⟩)]) (v := .int .i64 mi) rfl (fun u hu => ?_) (fun u hu => (load64_any u cb 6 mi ((HH.out.same hu).c 6)).mono (by rintro _ _ ⟨rfl, rfl⟩; exact ⟨rfl, Keeps.refl _ _⟩)) ?_; (focus (clear hu; go_simp)); (try simp only [Act.put, List.setIfInBounds_toArray, List.set_cons_zero, List.set_cons_succ]))
  repeat (first | (refine seqV_run (v := ?_) rfl (fun u hu => ?_) ?_; rotate_left; (focus (clear hu; go_simp; first | done | with_reducible rfl)); (try simp only [Act.put, List.setIfInBounds_toArray, List.set_cons_zero, List.set_cons_succ])) | (refine seqV_no rfl ?_; (try simp only [Act.put, List.setIfInBounds_toArray, List.set_cons_zero, List.set_cons_succ])))
  refine seqV_nil ?_
  refine tailR_zero fun u5 hu _ => ?_
  (try simp only [Act.put, List.setIfInBounds_toArray, List.set_cons_zero, List.set_cons_succ])
  have HU := hidE hu
  clear hu
  go_wp2
  go_ret2
  exact ⟨rfl, HU.out⟩
end
end Go.Proofs.YtomphgpplbekiaaGreat
namespace Go.Proofs.YtomphgpplbekiaaGreat
open Go.RowKit
attribute [local go_sem ↓] Go.wp_at_zero Go.wp_at_succ
section
variable {w w' : World} {N cb : Nat} {R : RamAt} {M : List Int} {V : CV} {l : List Fb} {hi mi : Int}
theorem IsCache.dA (h : IsCache w N cb R M V l hi mi) : R.b ≠ cb ∧ R.S ≠ cb ∧ R.A ≠ cb ∧ V.mb ≠ cb ∧ some cb ≠ V.bl.ownBlock ∧ some cb ≠ V.ow.ownBlock := by
  refine ⟨fun e => ?_, fun e => ?_, fun e => ?_, fun e => ?_, h.bl.ne h.hb (by decide), fun hk => ?_⟩
  · have := h.ram.hb; rw [e, h.hb] at this; cases this
  · obtain ⟨cs, this, -⟩ := h.ram.hS; rw [e, h.hb] at this; cases this
  · have := h.ram.hA; rw [e, h.hb] at this; simp only [Option.some.injEq, Obj.cells.injEq] at this; exact absurd this.2.1 (by decide)
  · obtain ⟨es, c, this, -⟩ := h.mp; rw [e, h.hb] at this; cases this
  obtain ⟨-, ⟨e0, h0⟩ | ⟨g, cap, cur, e0, hB, hg, -⟩⟩ := h.ow
  · rw [e0] at hk; cases hk
  · rw [e0] at hk
    simp only [Value.ownBlock, Option.some.injEq] at hk
    subst hk
    rw [h.hb] at hg
    cases hg
/-- The cache's own block turned, but for what its rows are. -/
theorem IsCache.reb {hi' mi' : Int} (h : IsCache w N cb R M V l hi mi) (k : Keeps (fun k => k = cb) w w') (hb : w'.heap[cb]? = some (.cells (cacheA R V l hi' mi') 100 (0, 0))) : IsCache w' N cb R M V l hi' mi' := by
  obtain ⟨d1, d2, d3, d4, d5, d6⟩ := h.dA
  exact ⟨hb, h.ram.keeps k d1 d2 d3, h.bl.keeps k fun g hg e => d5 (by rw [← hg, e]), owns_apart h.ow k fun g hg e => d6 (by rw [← hg, e]), h.mp.keeps k d4, fun x hx => (h.fb x hx).keeps k fun g hg e => h.ro x hx g hg (.inl e), h.ro, h.far⟩
theorem IsCache.look (h : IsCache w N cb R M V l hi mi) (k1 k2 : Int) : ∀ u, Same w u →
    (Instr.lookup 93 (.map (some V.mb)) (.agg #[.int .u32 k1, .int .u32 k2]) true).run Tryz.prog u = .ok (.tuple #[.int .i64 (((idxL (pl l) (k1, k2)).getD 0 : Nat) : Int), .bool (idxL (pl l) (k1, k2)).isSome]) u := fun u hu => by
  have := (h.same hu).mp.look 93 Tryz.underlying93 k1 k2
  rw [look_live] at this
  simp only [kyV] at this
  rw [this]
  cases idxL (pl l) (k1, k2) <;> rfl
/-- A laid block's cells. -/
theorem IsCache.bk (h : IsCache w N cb R M V l hi mi) {j : Nat} {x : Fb} (hj : l[j]? = some x) : ∃ g cap, V.bl = .slice (some ⟨g, 0, none⟩) l.length cap ∧ l.length ≤ cap ∧ cap ≤ maxLen ∧ (∀ i v, (fbP x)[i]? = some v → w.cell? ⟨g, j * 8 + i, none⟩ = some v) := by
  obtain ⟨g, cap, e, h1, h2, -, -, h3, -⟩ := h.bl.at_ (j := j) (c := fbP x) (by simp [hj])
  exact ⟨g, cap, by simpa using e, by simpa using h1, h2, h3⟩
def FindPost (w : World) (N cb : Nat) (R : RamAt) (M : List Int) (V : CV) (l : List Fb) (hi mi : Int) (k : Int × Int) (e : Ending) (w' : World) : Prop :=
  match idxL (pl l) k with
  | none => e = .returned (.tuple #[.int .i64 0, .bool false]) ∧ IsCache w' N cb R M V l hi (mi + 1) ∧ Keeps (fun k => k = cb) w w'
  | some j => ∃ x, l[j]? = some x ∧ e = .returned (.tuple #[.int .i64 x.1.pos, .bool true]) ∧ IsCache w' N cb R M V l (hi + 1) mi ∧ Keeps (fun k => k = cb) w w'
set_option maxRecDepth 100000 in
set_option maxHeartbeats 1000000 in
theorem cs_find (h : IsCache w N cb R M V l hi mi) (h0 : 0 ≤ hi ∧ hi < 1000000) (h1 : 0 ≤ mi ∧ mi < 1000000) (_hl : l.length ≤ 100000) (k1 k2 : Int) :
    Calls Tryz.prog 17 #[.pointer (some ⟨cb, 0, none⟩), .agg #[.int .u32 k1, .int .u32 k2]] w (FindPost w N cb R M V l hi mi (k1, k2)) := by
  have k0 := (Keeps.refl (fun _ => False) w).alloc (.cells #[.int .u32 k1, .int .u32 k2] 31)
  have b3 := block_new w (.cells #[.int .u32 k1, .int .u32 k2] 31)
  have h := h.same k0
  have HN := hidE (cs_none h)
  have HL := hidE (h.look k1 k2)
  have HH := hidE h
  have HK0 := hidE k0
  have HB3 := hidE b3
  unfold FindPost
  cases hq : idxL (pl l) (k1, k2) with
  | none =>
    rw [hq] at HL
    simp only [Option.getD_none, Option.isSome_none] at HL ⊢
    clear h k0 b3 hq
    go_enter Tryz.func17, Tryz.ntmps17
    go_wp2_with fail
    refine HN.out.mono ?_
    rintro _ w1 ⟨rfl, rfl⟩
    go_wp2_with fail
    refine wp_region_ra [0, 1, 2, 3, 4, 5, 6, 7, 8, 9, 10] [] 0 (Same _) (by kernel_rfl) (by kernel_rfl) (fun u u' h k => Keeps.trans h k) (Keeps.refl _ _).drew ?_; simp only [opsOf, List.filterMap_cons, List.filterMap_nil, List.getElem?_cons_zero, List.getElem?_cons_succ]
    repeat (first | (refine seqV_run (v := ?_) rfl (fun u hu => ?_) ?_; rotate_left; (focus (have d1 := (HH.out.same hu).c 2; have d2 := cell_of (hu.get HB3.out id); have d3 := HL.out u hu; simp only [cacheA] at d1; clear hu; go_simp; first | done | with_reducible rfl)); (try simp only [Act.put, List.setIfInBounds_toArray, List.set_cons_zero, List.set_cons_succ])) | (refine seqV_no rfl ?_; (try simp only [Act.put, List.setIfInBounds_toArray, List.set_cons_zero, List.set_cons_succ])))
    refine seqV_nil ?_
    refine tailR_zero fun u5 hu _ => ?_
    (try simp only [Act.put, List.setIfInBounds_toArray, List.set_cons_zero, List.set_cons_succ])
    have HU := hidE (HK0.out.trans hu)
    have HH5 := hidE (HH.out.same hu)
    clear hu HL HH
    have c6 := HH5.out.c 6
    have f6 := HH5.out.fz 6
    simp only [cacheA] at c6
    go_wp2_with fail
    refine (add64_any u5 cb 6 mi c6 f6 h1.1 h1.2).mono ?_
    rintro _ w2 ⟨rfl, rfl⟩
    clear c6 f6
    go_wp2
    go_ret2
    have k2 := (Keeps.refl (fun k => k = cb) u5).setCell (p := ⟨cb, 6, none⟩) (fun _ => rfl) (.int .i64 (mi + 1))
    exact ⟨rfl, HH5.out.reb k2 (block_set HH5.out.hb 6 _), (HU.out.mono fun _ _ h => h.elim).trans k2⟩
  | some j =>
    obtain ⟨f, hf, -⟩ := idxL_some hq
    obtain ⟨x, hx, rfl⟩ := pl_at hf
    have hjl : j < l.length := (List.getElem?_eq_some_iff.1 hx).1
    rw [hq] at HL
    simp only [Option.getD_some, Option.isSome_some] at HL ⊢
    clear h k0 b3 hq hf
    go_enter Tryz.func17, Tryz.ntmps17
    go_wp2_with fail
    refine HN.out.mono ?_
    rintro _ w1 ⟨rfl, rfl⟩
    go_wp2_with fail
    refine wp_region_ra [0, 1, 2, 3, 4, 5, 6, 7, 8, 9, 10] [] 0 (Same _) (by kernel_rfl) (by kernel_rfl) (fun u u' h k => Keeps.trans h k) (Keeps.refl _ _).drew ?_; simp only [opsOf, List.filterMap_cons, List.filterMap_nil, List.getElem?_cons_zero, List.getElem?_cons_succ]
    repeat (first | (refine seqV_run (v := ?_) rfl (fun u hu => ?_) ?_; rotate_left; (focus (have d1 := (HH.out.same hu).c 2; have d2 := cell_of (hu.get HB3.out id); have d3 := HL.out u hu; simp only [cacheA] at d1; clear hu; go_simp; first | done | with_reducible rfl)); (try simp only [Act.put, List.setIfInBounds_toArray, List.set_cons_zero, List.set_cons_succ])) | (refine seqV_no rfl ?_; (try simp only [Act.put, List.setIfInBounds_toArray, List.set_cons_zero, List.set_cons_succ])))
    refine seqV_nil ?_
    refine tailR_zero fun u5 hu _ => ?_
    (try simp only [Act.put, List.setIfInBounds_toArray, List.set_cons_zero, List.set_cons_succ])
    have HU := hidE (HK0.out.trans hu)
    have HH5 := hidE (HH.out.same hu)
    clear hu HL HH
    have c6 := HH5.out.c 5
    have f6 := HH5.out.fz 5
    simp only [cacheA] at c6
    go_wp2_with fail
    refine (add64_any u5 cb 5 hi c6 f6 h0.1 h0.2).mono ?_
    rintro _ w2 ⟨rfl, rfl⟩
    clear c6 f6
    have k2 := (Keeps.refl (fun k => k = cb) u5).setCell (p := ⟨cb, 5, none⟩) (fun _ => rfl) (.int .i64 (hi + 1))
    have h2 := HH5.out.reb k2 (block_set HH5.out.hb 5 (.int .i64 (hi + 1)))
    have c1 := h2.c 1
    obtain ⟨g, cap, e, n1, n2, hc⟩ := h2.bk hx
    have c8 := hc 2 _ rfl
    simp only [cacheA, e] at c1
    have H2 := hidE h2
    have HK2 := hidE ((HU.out.mono fun _ _ h => h.elim).trans k2)
    obtain ⟨W, hW⟩ : ∃ W, u5.setCell ⟨cb, 5, none⟩ (.int .i64 (hi + 1)) = W := ⟨_, rfl⟩
    rw [hW] at c1 c8 H2 HK2 ⊢
    clear hW k2 h2 hc e HH5
    have q0 : (j : Int) < (l.length : Int) := by omega
    go_wp2
    go_ret2
    exact ⟨x, hx, rfl, H2.out, HK2.out⟩
end
end Go.Proofs.YtomphgpplbekiaaGreat
