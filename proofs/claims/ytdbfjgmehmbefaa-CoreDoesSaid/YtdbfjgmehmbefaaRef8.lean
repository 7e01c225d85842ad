/- The reference of layer 8: Do (all). -/
import Derived.Test.YtdbfjgmehmbefaaRef8p
import Derived.Test.YtdbfjgmehmbefaaRef8q
import Derived.Test.YtdbfjgmehmbefaaRef8r
namespace Go.Proofs.Ytdbfjgmehmbefaa
open Go.RowKit
attribute [local go_sem ↓] x_ldS x_stS x_ldI x_stI x_ldA x_stA x_ldF x_stF
attribute [local go_sem] ne_s1 en_s1 ne_s2 en_s2 ne_s3 en_s3 ne_s4 en_s4 ne_s5 en_s5 ne_s6 en_s6 ne_s7 en_s7 ne_s8 en_s8 ne_s9 en_s9 ne_s10 en_s10 ne_s11 en_s11 lt_s2 lt_s3 lt_s4 lt_s5 lt_s6 lt_s7 lt_s8 lt_s9 lt_s10 lt_s11 rowAt_at rowAt_old rowAt_drew rowAt_drewN setRow_drew setRow_at setRow_old setCell_row setRow_setRow rowAt_setRow_eq rowAt_setRow_ne cell_setRow_eq cell_setRow_ne frozen_setRow_eq frozen_setRow_ne ones_lit oc_int oc_bool oc_str oc_ptr oc_sl oc_map oc_fn oc_nf oc_ni oc_if ld_S st_S ld_I st_I ld_A st_A ld_F st_F sa_size sa_one ac_size fl_size ac_one fl_one fl_c fl_a fg_c fg_a sa_pc sa_ps sg_pc sg_ps sa_r6 sa_r7 sg_r6 sg_r7 sa_r sg_r ss_pc ss_ps ss_r6 ss_r7 ss_r st0_eq
theorem may_ways {i : In} (_hi : i.Ok) (h : mayB i false = true) : i.op ≤ 3 ∨ (16 ≤ i.op ∧ i.op ≤ 33) ∨ (48 ≤ i.op ∧ i.op ≤ 58) ∨ (64 ≤ i.op ∧ i.op ≤ 74) ∨ i.op = 80 ∨ 96 ≤ i.op := by
  unfold mayB at h
  simp only [Bool.and_eq_true, decide_eq_true_eq] at h
  have h1 := h.1.1.1
  have hn : ¬ clsOf i.op false = 9 := fun e => by
    rw [show formL i.op false = fmOf (clsOf i.op false) from rfl, e] at h1
    exact absurd h1 (by decide)
  rcases cls_ways i.op false with h' | h' | h' | h' | h' | h' | h' | h' | h' | h' | h' | h' | h' | h' | h' | h'
  all_goals (first | (exfalso; exact hn h'.1) | (obtain ⟨-, h'⟩ := h'; omega) | (exfalso; simp at h'))
theorem rdo_any (s : St) (i : In) (v : Int) (hs : s.Ok) (hi : i.Ok) (v0 : 0 ≤ v) (v1 : v < 4294967296) (w : World) :
    Calls Try.prog 18 #[.agg (stA s), .agg (inA i), .int .u32 v] w fun e w' => e = .returned (.tuple #[.agg (stA (doL s i v).1), .agg (flA (doL s i v).2)]) ∧ Same w w' := by
  obtain ⟨op, a, b, imm⟩ := i
  have o0 := hi.o0
  simp only at o0
  unfold inA
  simp only
  cases hm : mayB ⟨op, a, b, imm⟩ false
  · exact rdo_n_may s op a b imm v hs hi v0 v1 hm w
  have hw := may_ways hi hm
  simp only at hw
  by_cases c0 : op = 0
  · subst c0; exact rdo_0 s a b imm v hs hi v0 v1 hm w
  by_cases c1 : op ≤ 3
  · exact rdo_n_low s op a b imm v hs hi v0 v1 hm (by omega) c1 w
  by_cases c2 : 96 ≤ op
  · exact rdo_n_high s op a b imm v hs hi v0 v1 hm c2 w
  by_cases c3 : op = 80
  · subst c3; exact rdo_80 s a b imm v hs hi v0 v1 hm w
  by_cases c4 : 64 ≤ op
  · by_cases c5 : op ≤ 71
    · cases hh : holdsL (op - 64) s.ps
      · exact rdo_j_false s op a b imm v hs hi v0 v1 hm c4 c5 hh w
      · exact rdo_j_true s op a b imm v hs hi v0 v1 hm c4 c5 hh w
    rcases (show op = 72 ∨ op = 73 ∨ op = 74 by omega) with rfl | rfl | rfl
    · exact rdo_72 s a b imm v hs hi v0 v1 hm w
    · exact rdo_73 s a b imm v hs hi v0 v1 hm w
    · exact rdo_74 s a b imm v hs hi v0 v1 hm w
  by_cases c6 : 48 ≤ op
  · by_cases hf : (wantL s ⟨op, a, b, imm⟩).2.c = 0
    · exact rdo_mem s op a b imm v hs hi v0 v1 hm c6 (by omega) hf w
    · exact rdo_mem_f s op a b imm v hs hi v0 v1 hm c6 (by omega) hf w
  by_cases d1 : op = 16
  · subst d1; exact rdo_16 s a b imm v hs hi v0 v1 hm w
  by_cases d2 : op = 32
  · subst d2; exact rdo_32 s a b imm v hs hi v0 v1 hm w
  by_cases d3 : op = 33
  · subst d3; exact rdo_33 s a b imm v hs hi v0 v1 hm w
  by_cases d4 : op = 25
  · subst d4
    by_cases hz : s.R b.toNat = 0
    · exact rdo_25_0 s a b imm v hs hi v0 v1 hm hz w
    · exact rdo_25 s a b imm v hs hi v0 v1 hm hz w
  by_cases d5 : op = 30
  · subst d5
    by_cases hz : s.R b.toNat = 0
    · exact rdo_30_0 s a b imm v hs hi v0 v1 hm hz w
    · exact rdo_30 s a b imm v hs hi v0 v1 hm hz w
  by_cases d6 : op = 26
  · subst d6; exact rdo_sum_26 s a b imm v hs hi v0 v1 hm w
  by_cases d7 : op = 31
  · subst d7; exact rdo_sum_31 s a b imm v hs hi v0 v1 hm w
  exact rdo_sum_y s op a b imm v hs hi v0 v1 hm (by simp [isSum]; omega) d3 (by simp [keepB]; omega) w
end Go.Proofs.Ytdbfjgmehmbefaa
