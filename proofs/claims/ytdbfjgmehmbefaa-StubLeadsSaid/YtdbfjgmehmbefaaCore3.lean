/- Package core: turned. -/
import Derived.Test.YtdbfjgmehmbefaaState
namespace Go.Proofs.Ytdbfjgmehmbefaa
open Go.RowKit
attribute [local go_sem ↓] x_ldS x_stS x_ldI x_stI x_ldA x_stA x_ldF x_stF
attribute [local go_sem] ne_s1 en_s1 ne_s2 en_s2 ne_s3 en_s3 ne_s4 en_s4 ne_s5 en_s5 ne_s6 en_s6 ne_s7 en_s7 ne_s8 en_s8 ne_s9 en_s9 ne_s10 en_s10 ne_s11 en_s11 lt_s2 lt_s3 lt_s4 lt_s5 lt_s6 lt_s7 lt_s8 lt_s9 lt_s10 lt_s11 rowAt_at rowAt_old rowAt_drew rowAt_drewN setRow_drew setRow_at setRow_old setCell_row setRow_setRow rowAt_setRow_eq rowAt_setRow_ne cell_setRow_eq cell_setRow_ne frozen_setRow_eq frozen_setRow_ne ones_lit oc_int oc_bool oc_str oc_ptr oc_sl oc_map oc_fn oc_nf oc_ni oc_if ld_S st_S ld_I st_I ld_A st_A ld_F st_F sa_size sa_one ac_size fl_size ac_one fl_one fl_c fl_a fg_c fg_a sa_pc sa_ps sg_pc sg_ps sa_r6 sa_r7 sg_r6 sg_r7 sa_r sg_r ss_pc ss_ps ss_r6 ss_r7 ss_r st0_eq

/-- Another status. -/
def turnS (s : St) (f : Int) : St := s.setPs (bits .or .u32 (bits .andNot .u32 s.ps 240) f)
set_option maxHeartbeats 1000000 in
set_option maxRecDepth 100000 in
theorem turned_any (s : St) (f : Int) (w : World) :
    Calls Try.prog 79 #[.agg (stA s), .int .u32 f] w fun e w' => e = .returned (.agg (stA (turnS s f))) ∧ Same w w' := by
  go_enter Try.func79, Try.ntmps79
  go_wp2
  refine post_row rfl Try.underlying25 rfl infoS rfl rfl (by go_simp; rfl) (sa_size _) ⟨rfl, ((Keeps.refl _ _).alloc _).alloc _⟩
set_option maxHeartbeats 1000000 in
set_option maxRecDepth 100000 in
theorem far_any (n : Int) (s : St) (w : World) (n0 : 0 ≤ n) (n8 : n < 8) :
    Calls Try.prog 75 #[.agg #[.int .u8 n], .agg (stA s)] w fun e w' => e = .returned (.int .u32 (s.R n.toNat)) ∧ Same w w' := by
  have h8 : n.toNat < 8 := by omega
  go_enter Try.func75, Try.ntmps75
  go_wp2
  go_ret
  exact ⟨rfl, ((Keeps.refl _ _).alloc _).alloc _⟩
end Go.Proofs.Ytdbfjgmehmbefaa
