/- The reference of layer 8: Do (what all need). -/
import Derived.Test.YtdbfjgmehmbefaaRef8a
import Derived.Test.YtdbfjgmehmbefaaRefW
namespace Go.Proofs.Ytdbfjgmehmbefaa
open Go.RowKit
attribute [local go_sem ↓] x_ldS x_stS x_ldI x_stI x_ldA x_stA x_ldF x_stF
attribute [local go_sem] ne_s1 en_s1 ne_s2 en_s2 ne_s3 en_s3 ne_s4 en_s4 ne_s5 en_s5 ne_s6 en_s6 ne_s7 en_s7 ne_s8 en_s8 ne_s9 en_s9 ne_s10 en_s10 ne_s11 en_s11 lt_s2 lt_s3 lt_s4 lt_s5 lt_s6 lt_s7 lt_s8 lt_s9 lt_s10 lt_s11 rowAt_at rowAt_old rowAt_drew rowAt_drewN setRow_drew setRow_at setRow_old setCell_row setRow_setRow rowAt_setRow_eq rowAt_setRow_ne cell_setRow_eq cell_setRow_ne frozen_setRow_eq frozen_setRow_ne ones_lit oc_int oc_bool oc_str oc_ptr oc_sl oc_map oc_fn oc_nf oc_ni oc_if ld_S st_S ld_I st_I ld_A st_A ld_F st_F sa_size sa_one ac_size fl_size ac_one fl_one fl_c fl_a fg_c fg_a sa_pc sa_ps sg_pc sg_ps sa_r6 sa_r7 sg_r6 sg_r7 sa_r sg_r ss_pc ss_ps ss_r6 ss_r7 ss_r st0_eq
theorem zn_ok8 (r : Int) : 0 ≤ zn r ∧ zn r ≤ 32 ∧ zn r % 16 = 0 := by unfold zn; split; decide; split <;> decide
theorem flg_ok8 (r : Int) (c v : Bool) : 0 ≤ flg r c v ∧ flg r c v < 256 ∧ flg r c v % 16 = 0 := by
  have h := zn_ok8 r
  unfold flg
  cases c <;> cases v <;> simp <;> omega
theorem znf8 (r : Int) : 0 ≤ zn r ∧ zn r < 256 ∧ zn r % 16 = 0 := by have h := zn_ok8 r; omega
theorem sumF_ok8 (op a b : Int) : 0 ≤ (sumL op a b).2 ∧ (sumL op a b).2 < 256 ∧ (sumL op a b).2 % 16 = 0 := by
  unfold sumL
  split
  · exact flg_ok8 _ _ _
  split
  · exact flg_ok8 _ _ _
  split
  · exact znf8 _
  split
  · exact znf8 _
  split
  · exact znf8 _
  split
  · unfold shlL; split
    · exact znf8 _
    · exact flg_ok8 _ _ _
  split
  · unfold shrL; split
    · exact znf8 _
    · exact flg_ok8 _ _ _
  split
  · exact flg_ok8 _ _ _
  split
  · unfold rorL; split
    · exact znf8 _
    · exact flg_ok8 _ _ _
  split
  · unfold sarL; split
    · exact znf8 _
    · exact flg_ok8 _ _ _
  split
  · exact znf8 _
  · decide
theorem fld_of2 (n m : Int) (A B S : Bool) (u : World) : (Instr.field 84 (.agg #[.int .i64 n, .bool A, .bool B, .int .i64 m, .bool S]) 0).run Try.prog u = .ok (.int .i64 n) u := by kernel_rfl
theorem fault_mem {s : St} {i : In} (h : (wantL s i).2.c ≠ 0) : 48 ≤ i.op ∧ i.op ≤ 58 := by
  unfold wantL at h
  split at h
  · rename_i hm
    simp only [Bool.and_eq_true, memB, decide_eq_true_eq] at hm
    exact hm.1
  · exact absurd rfl h
theorem doL_plain (s : St) (i : In) (v : Int) (hm : mayB i false = true) (h0 : i.op = 0 ∨ (3 < i.op ∧ i.op < 64)) (hf : (wantL s i).2.c = 0) : doL s i v = plainL (s.setPc (nextL s i)) i v s := by
  unfold doL
  rw [if_neg (by simp [noneB, hm]; omega), if_neg (by simp [hf]), if_neg (by omega), if_neg (by omega)]
theorem doL_jump (s : St) (i : In) (v : Int) (hm : mayB i false = true) (c0 : 64 ≤ i.op) (c1 : i.op ≤ 74) : doL s i v = (jumpL s i (nextL s i), fl0) := by
  have hf : (wantL s i).2.c = 0 := by
    by_cases h : (wantL s i).2.c = 0
    · exact h
    · have := fault_mem h; omega
  unfold doL
  rw [if_neg (by simp [noneB, hm]; omega), if_neg (by simp [hf]), if_neg (by omega), if_pos ⟨c0, c1⟩]
theorem no_fault {s : St} {i : In} (h : ¬ (48 ≤ i.op ∧ i.op ≤ 58)) : (wantL s i).2.c = 0 := by
  by_cases hc : (wantL s i).2.c = 0
  · exact hc
  · exact absurd (fault_mem hc) h
end Go.Proofs.Ytdbfjgmehmbefaa
