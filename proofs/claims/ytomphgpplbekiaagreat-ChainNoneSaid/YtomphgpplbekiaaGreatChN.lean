/- A chain that is not there, and one that no call made. -/
import Derived.Test.YtomphgpplbekiaaGreatCnA
namespace Go.Proofs.YtomphgpplbekiaaGreat
open Go.RowKit
attribute [local go_sem ↓] Go.wp_at_zero Go.wp_at_succ

theorem ch_none (w : World) (v : Value) (h : NoC w v) : Calls Tryz.prog 58 #[v] w fun e w' => e = .returned (.bool true) ∧ w = w' := by
  rcases h with rfl | ⟨g, rfl, hc⟩
  all_goals
    go_enter Tryz.func58, Tryz.ntmps58
    go_wp2_with fail
    go_ret
    exact ⟨rfl, rfl⟩
theorem ch_flush (w : World) (v : Value) (h : NoC w v) : Calls Tryz.prog 20 #[v] w fun e w' => e = .returned (.tuple #[]) ∧ w = w' := by
  have HN := hidE (ch_none w v h)
  clear h
  go_enter Tryz.func20, Tryz.ntmps20
  go_wp2_with fail
  refine HN.out.mono ?_
  rintro _ w1 ⟨rfl, rfl⟩
  go_wp2
  go_end0
  exact ⟨rfl, rfl⟩
theorem ch_unlink (w : World) (v : Value) (x : Int) (h : NoC w v) : Calls Tryz.prog 23 #[v, .int .i64 x] w fun e w' => e = .returned (.bool false) ∧ w = w' := by
  have HN := hidE (ch_none w v h)
  clear h
  go_enter Tryz.func23, Tryz.ntmps23
  go_wp2_with fail
  refine HN.out.mono ?_
  rintro _ w1 ⟨rfl, rfl⟩
  go_wp2
  go_ret
  exact ⟨rfl, rfl⟩
theorem ch_links (w : World) (v : Value) (h : NoC w v) : Calls Tryz.prog 25 #[v] w fun e w' => e = .returned (.slice none 0 0) ∧ w = w' := by
  have HN := hidE (ch_none w v h)
  clear h
  go_enter Tryz.func25, Tryz.ntmps25
  go_wp2_with fail
  refine HN.out.mono ?_
  rintro _ w1 ⟨rfl, rfl⟩
  go_wp2
  go_ret
  exact ⟨rfl, rfl⟩
theorem ch_link (w : World) (v : Value) (x k1 k2 : Int) (h : NoC w v) : Calls Tryz.prog 22 #[v, .int .i64 x, .agg #[.int .u32 k1, .int .u32 k2]] w fun e w' => e = .returned (.bool false) ∧ Same w w' := by
  have k0 := (Keeps.refl (fun _ => False) w).alloc (.cells #[.int .u32 k1, .int .u32 k2] 31)
  have HN := hidE (ch_none _ v (h.same k0))
  have HK := hidE k0
  clear h k0
  go_enter Tryz.func22, Tryz.ntmps22
  go_wp2_with fail
  refine HN.out.mono ?_
  rintro _ w1 ⟨rfl, rfl⟩
  go_wp2
  go_ret
  exact ⟨rfl, HK.out⟩
theorem ch_dropped (w : World) (v s : Value) (h : NoC w v) : Calls Tryz.prog 24 #[v, s] w fun e w' => e = .returned (.slice none 0 0) ∧ Same w w' := by
  obtain ⟨pv, rfl⟩ : ∃ p, v = .pointer p := by rcases h with rfl | ⟨g, rfl, -⟩ <;> exact ⟨_, rfl⟩
  have k0 := (Keeps.refl (fun _ => False) w).alloc (.cells #[.pointer pv] 67)
  have HN := hidE (ch_none _ _ (h.same k0))
  have HK := hidE k0
  clear h k0
  go_enter Tryz.func24, Tryz.ntmps24
  go_wp2_with fail
  refine HN.out.mono ?_
  rintro _ w1 ⟨rfl, rfl⟩
  go_wp2
  go_ret
  exact ⟨rfl, HK.out⟩
section
attribute [local go_sem ↓] x_stKy x_stRw x_stLd x_stOu x_stRb x_stCd x_stBk x_stLk
attribute [local go_sem] st_Ky st_Rw st_Ld st_Ou st_Rb st_Cd st_Bk st_Lk ne_s1 en_s1 ne_s2 en_s2 ne_s3 en_s3 ne_s4 en_s4 ne_s5 en_s5 ne_s6 en_s6 ne_s7 en_s7 ne_s8 en_s8 lt_s2 lt_s3 lt_s4 lt_s5 lt_s6 lt_s7 lt_s8 rowAt_at rowAt_old rowAt_drew rowAt_drewN setRow_drew setRow_at setRow_old setRow_setRow rowAt_setRow_eq rowAt_setRow_ne cell_setRow_eq cell_setRow_ne frozen_setRow_eq frozen_setRow_ne ones_lit oc_int oc_bool oc_str oc_ptr oc_sl oc_map oc_fn oc_nf oc_ni oc_if
set_option maxRecDepth 100000 in
theorem ch_to (w : World) (v : Value) (x : Int) (h : NoC w v) : Calls Tryz.prog 21 #[v, .int .i64 x] w fun e w' => e = .returned (.tuple #[.agg keyZ, .bool false]) ∧ Same w w' := by
  have k0 := (Keeps.refl (fun _ => False) w).alloc (.cells keyZ 31)
  simp only [keyZ] at *
  have HN := hidE (ch_none _ v (h.same k0))
  have HK := hidE k0
  clear h k0
  go_enter Tryz.func21, Tryz.ntmps21
  go_wp2_with fail
  refine HN.out.mono ?_
  rintro _ w1 ⟨rfl, rfl⟩
  go_wp2
  refine post_row1 rfl Tryz.underlying31 rfl infoKy rfl rfl rfl (by go_simp) rfl ⟨rfl, HK.out⟩
end
theorem mk_links (w : World) : (Instr.makeMap 68 none).run Tryz.prog w = .ok (.map (some w.heap.size)) (w.alloc (.map #[] 0)) := rfl
/-- A new chain's cells. -/
def chainA (rb cb lb : Nat) : Array Value := #[.pointer (some ⟨rb, 0, none⟩), .pointer (some ⟨cb, 0, none⟩), .map (some lb)]
theorem ch_new (w : World) (R : RamAt) (M : List Int) (H : IsRam w R M) (cb : Nat) : Calls Tryz.prog 27 #[.pointer (some ⟨R.b, 0, none⟩), .pointer (some ⟨cb, 0, none⟩)] w fun e w' => e = .returned (.tuple #[.pointer (some ⟨w.heap.size + 1, 0, none⟩), .int .i64 0]) ∧ w'.heap[w.heap.size + 1]? = some (.cells (chainA R.b cb w.heap.size) 70 (0, 0)) ∧ w'.heap[w.heap.size]? = some (.map #[] 0) ∧ Same w w' := by
  have HR := hidE H
  have n1 := H.n1
  have n2 := H.n2
  have q0 : (64 * (R.n : Int) == 0) = false := beq_eq_false_iff_ne.2 (by omega)
  have mm := mk_links
  clear H
  go_enter Tryz.func27, Tryz.ntmps27
  go_wp2_with fail
  refine (size_ram _ HR.out).mono ?_
  rintro _ w1 ⟨rfl, rfl⟩
  go_wp2
  go_ret2
  refine ⟨?_, block_atR _ (by simp), block_old _ (block_atR _ (by simp)), ((Keeps.refl (fun _ => False) w).alloc _).alloc _⟩
  simp
theorem ch_new_nil (w : World) (v : Value) : Calls Tryz.prog 27 #[.pointer none, v] w fun e w' => e = .returned (.tuple #[.pointer none, .int .i64 1]) ∧ w = w' := by
  go_enter Tryz.func27, Tryz.ntmps27
  go_wp2_with fail
  refine (size_nil _).mono ?_
  rintro _ w1 ⟨rfl, rfl⟩
  go_wp2
  go_ret2
  exact ⟨rfl, rfl⟩
theorem ch_new_no (w : World) (R : RamAt) (M : List Int) (H : IsRam w R M) : Calls Tryz.prog 27 #[.pointer (some ⟨R.b, 0, none⟩), .pointer none] w fun e w' => e = .returned (.tuple #[.pointer none, .int .i64 1]) ∧ w = w' := by
  have HR := hidE H
  have n1 := H.n1
  have n2 := H.n2
  have q0 : (64 * (R.n : Int) == 0) = false := beq_eq_false_iff_ne.2 (by omega)
  clear H
  go_enter Tryz.func27, Tryz.ntmps27
  go_wp2_with fail
  refine (size_ram _ HR.out).mono ?_
  rintro _ w1 ⟨rfl, rfl⟩
  go_wp2
  go_ret2
  exact ⟨rfl, rfl⟩
end Go.Proofs.YtomphgpplbekiaaGreat
