/- Package core: moved. -/
import Derived.Test.YtdbfjgmehmbefaaCore4
import Derived.Test.YtdbfjgmehmbefaaIsaC
import Derived.Test.YtdbfjgmehmbefaaBitsP
namespace Go.Proofs.Ytdbfjgmehmbefaa
open Go.RowKit
attribute [local go_sem ↓] x_ldS x_stS x_ldI x_stI x_ldA x_stA x_ldF x_stF
attribute [local go_sem] ne_s1 en_s1 ne_s2 en_s2 ne_s3 en_s3 ne_s4 en_s4 ne_s5 en_s5 ne_s6 en_s6 ne_s7 en_s7 ne_s8 en_s8 ne_s9 en_s9 ne_s10 en_s10 ne_s11 en_s11 lt_s2 lt_s3 lt_s4 lt_s5 lt_s6 lt_s7 lt_s8 lt_s9 lt_s10 lt_s11 rowAt_at rowAt_old rowAt_drew rowAt_drewN setRow_drew setRow_at setRow_old setCell_row setRow_setRow rowAt_setRow_eq rowAt_setRow_ne cell_setRow_eq cell_setRow_ne frozen_setRow_eq frozen_setRow_ne ones_lit oc_int oc_bool oc_str oc_ptr oc_sl oc_map oc_fn oc_nf oc_ni oc_if ld_S st_S ld_I st_I ld_A st_A ld_F st_F sa_size sa_one ac_size fl_size ac_one fl_one fl_c fl_a fg_c fg_a sa_pc sa_ps sg_pc sg_ps sa_r6 sa_r7 sg_r6 sg_r7 sa_r sg_r ss_pc ss_ps ss_r6 ss_r7 ss_r st0_eq

/-- A number's lowest n bytes, with their sign. -/
def sgnL (v : Int) (n : Int) : Int := if n = 1 then (if v % 256 < 128 then v % 256 else v % 256 + 4294967040) else (if v % 65536 < 32768 then v % 65536 else v % 65536 + 4294901760)
/-- The state behind an access that has read v. -/
def movedL (s : St) (i : In) (v : Int) : St :=
  if i.op = 48 ∨ i.op = 58 then s.setR i.a.toNat v
  else if i.op = 50 then s.setR i.a.toNat (v % 256)
  else if i.op = 52 then s.setR i.a.toNat (v % 65536)
  else if i.op = 54 then s.setR i.a.toNat (sgnL v 1)
  else if i.op = 55 then s.setR i.a.toNat (sgnL v 2)
  else if i.op = 56 then s.setR 7 ((s.R 7 - 4) % 4294967296)
  else if i.op = 57 then (s.setR 7 ((s.R 7 + 4) % 4294967296)).setR i.a.toNat v
  else s
theorem sgn_8 (v : Int) : IntKind.i8.wrap v % 4294967296 = sgnL v 1 := by
  rw [i8_wrap v]
  unfold sgnL
  rw [if_pos rfl]
  by_cases h : v % 256 < 128
  · rw [if_pos h, if_pos h]; omega
  · rw [if_neg h, if_neg h]; omega
theorem sgn_16 (v : Int) : IntKind.i16.wrap v % 4294967296 = sgnL v 2 := by
  rw [i16_wrap v]
  unfold sgnL
  rw [if_neg (show ¬ (2 : Int) = 1 by omega)]
  by_cases h : v % 65536 < 32768
  · rw [if_pos h, if_pos h]; omega
  · rw [if_neg h, if_neg h]; omega
set_option maxHeartbeats 2000000 in
set_option maxRecDepth 100000 in
theorem moved_any (s : St) (i : In) (v : Int) (hs : s.Ok) (a0 : 0 ≤ i.a) (a1 : i.a < 8) (v0 : 0 ≤ v) (v1 : v < 4294967296) (w : World) :
    Calls Try.prog 77 #[.agg (stA s), .agg (inA i), .int .u32 v] w fun e w' => e = .returned (.agg (stA (movedL s i v))) ∧ Same w w' := by
  obtain ⟨op, a, b, imm⟩ := i
  simp only at a0 a1
  obtain ⟨r0, r1, -, -, -, -⟩ := hs
  have q0 := r0 7
  have q1 := r1 7
  clear r0 r1
  have h8 : a.toNat < 8 := by omega
  unfold inA
  simp only
  by_cases c48 : op = 48
  · subst c48
    go_enter Try.func77, Try.ntmps77
    go_wp2

    refine post_row rfl Try.underlying25 rfl infoS rfl rfl (by go_simp; rfl) (sa_size _) ⟨?_, (((Keeps.refl _ _).alloc _).alloc _).alloc _⟩
    simp [movedL]
  by_cases c58 : op = 58
  · subst c58
    go_enter Try.func77, Try.ntmps77
    go_wp2

    refine post_row rfl Try.underlying25 rfl infoS rfl rfl (by go_simp; rfl) (sa_size _) ⟨?_, (((Keeps.refl _ _).alloc _).alloc _).alloc _⟩
    simp [movedL]
  by_cases c50 : op = 50
  · subst c50
    go_enter Try.func77, Try.ntmps77
    go_wp2

    refine post_row rfl Try.underlying25 rfl infoS rfl rfl (by go_simp; rfl) (sa_size _) ⟨?_, (((Keeps.refl _ _).alloc _).alloc _).alloc _⟩
    rw [and_255 v v0 v1]; rfl
  by_cases c52 : op = 52
  · subst c52
    go_enter Try.func77, Try.ntmps77
    go_wp2

    refine post_row rfl Try.underlying25 rfl infoS rfl rfl (by go_simp; rfl) (sa_size _) ⟨?_, (((Keeps.refl _ _).alloc _).alloc _).alloc _⟩
    rw [and_65535 v v0 v1]; rfl
  by_cases c54 : op = 54
  · subst c54
    go_enter Try.func77, Try.ntmps77
    go_wp2

    refine post_row rfl Try.underlying25 rfl infoS rfl rfl (by go_simp; rfl) (sa_size _) ⟨?_, (((Keeps.refl _ _).alloc _).alloc _).alloc _⟩
    rw [show IntKind.i8.wrap v % 4294967296 = sgnL v 1 from sgn_8 v]; rfl
  by_cases c55 : op = 55
  · subst c55
    go_enter Try.func77, Try.ntmps77
    go_wp2

    refine post_row rfl Try.underlying25 rfl infoS rfl rfl (by go_simp; rfl) (sa_size _) ⟨?_, (((Keeps.refl _ _).alloc _).alloc _).alloc _⟩
    rw [show IntKind.i16.wrap v % 4294967296 = sgnL v 2 from sgn_16 v]; rfl
  by_cases c56 : op = 56
  · subst c56
    go_enter Try.func77, Try.ntmps77
    go_wp2

    refine post_row rfl Try.underlying25 rfl infoS rfl rfl (by go_simp; rfl) (sa_size _) ⟨?_, (((Keeps.refl _ _).alloc _).alloc _).alloc _⟩
    simp [movedL]
  by_cases c57 : op = 57
  · subst c57
    go_enter Try.func77, Try.ntmps77
    go_wp2

    refine post_row rfl Try.underlying25 rfl infoS rfl rfl (by go_simp; rfl) (sa_size _) ⟨?_, (((Keeps.refl _ _).alloc _).alloc _).alloc _⟩
    simp [movedL]
  have d48 : (op == 48) = false := by simpa using c48
  have d58 : (op == 58) = false := by simpa using c58
  have d50 : (op == 50) = false := by simpa using c50
  have d52 : (op == 52) = false := by simpa using c52
  have d54 : (op == 54) = false := by simpa using c54
  have d55 : (op == 55) = false := by simpa using c55
  have d56 : (op == 56) = false := by simpa using c56
  have d57 : (op == 57) = false := by simpa using c57
  have he : movedL s ⟨op, a, b, imm⟩ v = s := by simp [movedL, c48, c58, c50, c52, c54, c55, c56, c57]
  have HE := hidE he
  clear he c48 c58 c50 c52 c54 c55 c56 c57
  go_enter Try.func77, Try.ntmps77
  go_wp2

  refine post_row rfl Try.underlying25 rfl infoS rfl rfl (by go_simp; rfl) (sa_size _) ⟨?_, (((Keeps.refl _ _).alloc _).alloc _).alloc _⟩
  rw [HE.out]
end Go.Proofs.Ytdbfjgmehmbefaa
