/- The walk of the statement CoreReads. -/
import Derived.Test.YtdbfjgmehmbefaaRd
import Derived.Test.YtdbfjgmehmbefaaRb
import Derived.Test.YtdbfjgmehmbefaaCoreWritesWalk
import Derived.Test.YtdbfjgmehmbefaaCoreTwiceWalk
namespace Go.Proofs.Ytdbfjgmehmbefaa
open Go.RowKit
attribute [local go_sem ↓] x_ldS x_stS x_ldI x_stI x_ldA x_stA x_ldF x_stF
attribute [local go_sem] ne_s1 en_s1 ne_s2 en_s2 ne_s3 en_s3 ne_s4 en_s4 ne_s5 en_s5 ne_s6 en_s6 ne_s7 en_s7 ne_s8 en_s8 ne_s9 en_s9 ne_s10 en_s10 ne_s11 en_s11 lt_s2 lt_s3 lt_s4 lt_s5 lt_s6 lt_s7 lt_s8 lt_s9 lt_s10 lt_s11 rowAt_at rowAt_old rowAt_drew rowAt_drewN setRow_drew setRow_at setRow_old setCell_row setRow_setRow rowAt_setRow_eq rowAt_setRow_ne cell_setRow_eq cell_setRow_ne frozen_setRow_eq frozen_setRow_ne ones_lit oc_int oc_bool oc_str oc_ptr oc_sl oc_map oc_fn oc_nf oc_ni oc_if ld_S st_S ld_I st_I ld_A st_A ld_F st_F sa_size sa_one ac_size fl_size ac_one fl_one fl_c fl_a fg_c fg_a sa_pc sa_ps sg_pc sg_ps sa_r6 sa_r7 sg_r6 sg_r7 sa_r sg_r ss_pc ss_ps ss_r6 ss_r7 ss_r st0_eq
theorem x_eqF (ρ : Operand → Value) (dst : Option Tmp) (x y : Operand) (r ty : TypeId) (pos : String) (after : Array Edge) (guard : Option (Nat × Bool)) :
    execOp ρ { dst, op := .binOp .eql 31 x y r, type := ty, pos, after, guard } = eqOp 31 x y (ρ x) (ρ y) := rfl
theorem eqgF : Try.prog.eqGuardType Try.prog.depth 31 = false := by kernel_rfl
theorem run_eqF (s : Fl) (w : World) : (binOp .eql 31 (.agg (flA s)) (.agg (flA s))).run Try.prog w = .ok (.bool true) w := by
  rw [run_eql_struct, run_equalIn_struct w 9999 31 _ _ (by kernel_rfl) (by kernel_rfl)]
  unfold flA
  go_simp
theorem eq_F (s : Fl) (x y : Operand) (w : World) : (eqOp 31 x y (.agg (flA s)) (.agg (flA s))).run Try.prog w = .ok (.value (.bool true)) w := by
  unfold eqOp
  simp only [Sem.run_bind, run_eqGuard_agg w .eql 31 x y _ _ eqgF, run_eqF, Result.andThen_ok, Sem.run_pure]
attribute [local go_sem ↓] x_eqS x_eqF
attribute [local go_sem] eq_S eq_F
set_option maxHeartbeats 2000000 in
set_option maxRecDepth 100000 in
theorem oth_open {w : World} {s : Array Value} (h : RdV Try.prog w 46 s.toList) : ∃ x y n : Int, s = #[.int .u32 x, .int .u32 y, .int .u8 n] ∧ 0 ≤ x ∧ x < 4294967296 ∧ 0 ≤ y ∧ y < 4294967296 ∧ 0 ≤ n ∧ n < 256 := by
  obtain ⟨hl, hf⟩ := h.struct Try.underlying46
  rw [show Try.prog.cellsOf 46 = 3 from by kernel_rfl] at hl
  obtain ⟨s⟩ := s
  match s, hl with
  | [c0, c1, c2], _ =>
  have e22 : Try.prog.cellsOf 22 = 1 := by kernel_rfl
  have e2 : Try.prog.cellsOf 44 = 2 := by kernel_rfl
  have e8 : Try.prog.cellsOf 5 = 1 := by kernel_rfl
  simp [e2, e8] at hf
  obtain ⟨h0, h1⟩ := hf
  obtain ⟨-, hg⟩ := h0.array Try.underlying44
  obtain ⟨x, hx, x0, x1⟩ := (hg 0 (by omega)).int Try.underlying22
  obtain ⟨y, hy, y0, y1⟩ := (hg 1 (by omega)).int Try.underlying22
  obtain ⟨n, hn, n0, n1⟩ := h1.int Try.underlying5
  simp [e22] at hx hy hn
  subst hx hy hn
  simp [IntKind.min, IntKind.max, IntKind.signed, IntKind.bits] at x0 x1 y0 y1 n0 n1
  exact ⟨x, y, n, rfl, x0, by omega, y0, by omega, n0, by omega⟩
/-- What the table's questions leave as it was. -/
def TT (tb : Nat) (u u' : World) : Prop := Keeps (fun k => k = tb) u u' ∧ (TabOk u tb → TabOk u' tb)
theorem TT.refl (tb : Nat) (u : World) : TT tb u u := ⟨Keeps.refl _ _, id⟩
def TS (W : World) (tb : Nat) (u : World) : Prop := Keeps (fun k => k = tb) W u ∧ TabOk u tb
theorem TS.next {W : World} {tb : Nat} (u u' : World) (h : TS W tb u) (k : TT tb u u') : TS W tb u' := ⟨h.1.trans k.1, k.2 h.2⟩
set_option maxHeartbeats 2000000 in
set_option maxRecDepth 100000 in
theorem reads_true (s : St) (i : In) (x y n : Int) (_hs : s.Ok) (hi : i.Ok) (_x0 : 0 ≤ x) (_x1 : x < 4294967296) (_y0 : 0 ≤ y) (_y1 : y < 4294967296) (n0 : 0 ≤ n) (n1 : n < 256) (hb : (bits .and .u8 (bits .or .u8 (setL i abp (regR i.a i.b)) (setL i ALP (regW i.a i.b)) / 2 ^ (n % 8).toNat) 1 == 1) = true) (w : World) :
    Calls Try.prog 9 #[.agg (stA s), .agg (inA i), .agg #[.int .u32 x, .int .u32 y, .int .u8 n]] w fun e w' => e = .returned (.bool true) ∧ Same w w' := by
  have HR := hidE (fun w tb htb ht => reads_ok w tb htb i hi ht)
  have HW := hidE (fun w tb htb ht => writes_ok w tb htb i hi ht)
  have h8 : (n % 8).toNat < 8 := by omega
  have h80 : 0 ≤ n % 8 := by omega
  generalize setL i abp (regR i.a i.b) = MR at *
  generalize setL i ALP (regW i.a i.b) = MW at *
  obtain ⟨op, a, b, imm⟩ := i
  simp only [inA] at *
  clear hi
  go_enter Try.func9, Try.ntmps9
  go_wp2_with fail
  refine (kind_new _).mono ?_
  rintro e w1 ⟨rfl, htn, hk⟩
  (obtain ⟨hc1, hf1, hr1, -, -, -⟩ := same_facts hk); have lt_w1_0 : w.heap.size < w1.heap.size := (by have hh := (hk).size; (try simp at hh); omega); have lt_w1_1 : w.heap.size + 1 < w1.heap.size := (by have hh := (hk).size; (try simp at hh); omega); have lt_w1_2 : w.heap.size + 1 + 1 < w1.heap.size := (by have hh := (hk).size; (try simp at hh); omega); have lt_w1_3 : w.heap.size + 1 + 1 + 1 < w1.heap.size := (by have hh := (hk).size; (try simp at hh); omega); have lt1_w1_0 : w.heap.size < w1.heap.size + 1 := (by omega); have lt2_w1_0 : w.heap.size < w1.heap.size + 1 + 1 := (by omega); have lt1_w1_1 : w.heap.size + 1 < w1.heap.size + 1 := (by omega); have lt2_w1_1 : w.heap.size + 1 < w1.heap.size + 1 + 1 := (by omega); have lt1_w1_2 : w.heap.size + 1 + 1 < w1.heap.size + 1 := (by omega); have lt2_w1_2 : w.heap.size + 1 + 1 < w1.heap.size + 1 + 1 := (by omega); have lt1_w1_3 : w.heap.size + 1 + 1 + 1 < w1.heap.size + 1 := (by omega); have lt2_w1_3 : w.heap.size + 1 + 1 + 1 < w1.heap.size + 1 + 1 := (by omega); have rw_w1_0 := (hr1 (w.heap.size) (by (try simp); (try omega))).trans (show rowAt _ (w.heap.size) = _ by go_simp; rfl); have rw_w1_1 := (hr1 (w.heap.size + 1) (by (try simp); (try omega))).trans (show rowAt _ (w.heap.size + 1) = _ by go_simp; rfl); have rw_w1_2 := (hr1 (w.heap.size + 1 + 1) (by (try simp); (try omega))).trans (show rowAt _ (w.heap.size + 1 + 1) = _ by go_simp; rfl); have rw_w1_3 := (hr1 (w.heap.size + 1 + 1 + 1) (by (try simp); (try omega))).trans (show rowAt _ (w.heap.size + 1 + 1 + 1) = _ by go_simp; rfl); have HK1 := hidE hk; clear hk
  simp only [World.size_alloc] at htn
  have HT := hidE htn
  have ltb : w.heap.size + 1 + 1 + 1 + 1 < w1.heap.size := by
    have h := lt_of_block HT.out
    exact h
  clear htn
  go_wp2_with fail
  refine wp_region_rb (T := TT (w.heap.size + 1 + 1 + 1 + 1)) [0, 1, 2, 3, 4, 5, 6, 7, 8, 9, 10] [] 0 (TS w1 (w.heap.size + 1 + 1 + 1 + 1)) (by kernel_rfl) (by kernel_rfl) TS.next ⟨(Keeps.refl _ _).drew, .inl HT.out⟩ ?_
  simp only [opsOf, List.filterMap_cons, List.filterMap_nil, List.getElem?_cons_zero, List.getElem?_cons_succ]
  repeat (refine seqT_run (TT.refl _) (v := ?_) rfl (fun u hu => ?_) ?_; rotate_left; (focus (obtain ⟨hc, hf, hr⟩ := keeps_factsR hu.1; clear hu; go_simp; first | done | with_reducible rfl)); (try simp only [Act.put, List.setIfInBounds_toArray, List.set_cons_zero, List.set_cons_succ]))
  refine seqT_call (f := 24) (args := #[.pointer (some ⟨w.heap.size + 1 + 1 + 1 + 1, 0, none⟩), .agg #[.int .u8 op, .int .u8 a, .int .u8 b, .int .i32 imm]]) (v := .int .u8 MR) rfl (fun u hu => ?_) (fun u hu => (HR.out u _ (Nat.lt_of_lt_of_le ltb hu.1.size) hu.2).mono fun e w' h => ⟨h.1, h.2.1, fun _ => h.2.2⟩) ?_
  · (obtain ⟨hc, hf, hr⟩ := keeps_factsR hu.1; clear hu; go_simp)
  simp only [Act.put, List.setIfInBounds_toArray, List.set_cons_zero, List.set_cons_succ]
  repeat (refine seqT_run (TT.refl _) (v := ?_) rfl (fun u hu => ?_) ?_; rotate_left; (focus (obtain ⟨hc, hf, hr⟩ := keeps_factsR hu.1; clear hu; go_simp; first | done | with_reducible rfl)); (try simp only [Act.put, List.setIfInBounds_toArray, List.set_cons_zero, List.set_cons_succ]))
  refine seqT_call (f := 22) (args := #[.pointer (some ⟨w.heap.size + 1 + 1 + 1 + 1, 0, none⟩), .agg #[.int .u8 op, .int .u8 a, .int .u8 b, .int .i32 imm]]) (v := .int .u8 MW) rfl (fun u hu => ?_) (fun u hu => (HW.out u _ (Nat.lt_of_lt_of_le ltb hu.1.size) hu.2).mono fun e w' h => ⟨h.1, h.2.1, fun _ => h.2.2⟩) ?_
  · (obtain ⟨hc, hf, hr⟩ := keeps_factsR hu.1; clear hu; go_simp)
  simp only [Act.put, List.setIfInBounds_toArray, List.set_cons_zero, List.set_cons_succ]
  repeat (refine seqT_run (TT.refl _) (v := ?_) rfl (fun u hu => ?_) ?_; rotate_left; (focus (obtain ⟨hc, hf, hr⟩ := keeps_factsR hu.1; clear hu; go_simp; first | done | with_reducible rfl)); (try simp only [Act.put, List.setIfInBounds_toArray, List.set_cons_zero, List.set_cons_succ]))
  refine seqT_nil ?_
  refine tailT_zero fun w2 hu _ => ?_
  obtain ⟨hc2, hf2, hr2⟩ := keeps_factsR hu.1
  have z2 := hu.1.size
  have lt_w2_0 : w.heap.size < w2.heap.size := by omega
  have lt1_w2_0 : w.heap.size < w2.heap.size + 1 := by omega
  have rw_w2_0 := (hr2 (w.heap.size) (by omega) (by omega)).trans rw_w1_0
  have lt_w2_1 : w.heap.size + 1 < w2.heap.size := by omega
  have lt1_w2_1 : w.heap.size + 1 < w2.heap.size + 1 := by omega
  have rw_w2_1 := (hr2 (w.heap.size + 1) (by omega) (by omega)).trans rw_w1_1
  have lt_w2_2 : w.heap.size + 1 + 1 < w2.heap.size := by omega
  have lt1_w2_2 : w.heap.size + 1 + 1 < w2.heap.size + 1 := by omega
  have rw_w2_2 := (hr2 (w.heap.size + 1 + 1) (by omega) (by omega)).trans rw_w1_2
  have lt_w2_3 : w.heap.size + 1 + 1 + 1 < w2.heap.size := by omega
  have lt1_w2_3 : w.heap.size + 1 + 1 + 1 < w2.heap.size + 1 := by omega
  have rw_w2_3 := (hr2 (w.heap.size + 1 + 1 + 1) (by omega) (by omega)).trans rw_w1_3
  have HK2 := hidE hu.1
  clear hu
  go_wp2_with fail
  refine (works8 _).mono ?_
  rintro e w9 ⟨rfl, hk⟩
  have HK9 := hidE hk
  clear hk
  go_wp2
  go_ret
  refine ⟨rfl, ?_⟩
  refine Keeps.trans ?_ HK9.out
  (repeat (first | with_reducible exact Keeps.refl _ _ | (with_reducible refine Keeps.drew ?_) | (with_reducible refine Keeps.alloc ?_ _) | (with_reducible refine Keeps.setRow ?_ (fun h => absurd h (by omega)) _) | (with_reducible refine Keeps.setCell ?_ (fun h => absurd h (by simp only []; omega)) _) | (with_reducible refine Keeps.trans ?_ HK8.out) | (with_reducible refine same_then ?_ HK8.out (fun k hk => by omega)) | (with_reducible refine Keeps.trans ?_ HK7.out) | (with_reducible refine same_then ?_ HK7.out (fun k hk => by omega)) | (with_reducible refine Keeps.trans ?_ HK6.out) | (with_reducible refine same_then ?_ HK6.out (fun k hk => by omega)) | (with_reducible refine Keeps.trans ?_ HK5.out) | (with_reducible refine same_then ?_ HK5.out (fun k hk => by omega)) | (with_reducible refine Keeps.trans ?_ HK4.out) | (with_reducible refine same_then ?_ HK4.out (fun k hk => by omega)) | (with_reducible refine Keeps.trans ?_ HK3.out) | (with_reducible refine same_then ?_ HK3.out (fun k hk => by omega)) | (with_reducible refine Keeps.trans ?_ HK2.out) | (with_reducible refine same_then ?_ HK2.out (fun k hk => by omega)) | (with_reducible refine Keeps.trans ?_ HK1.out) | (with_reducible refine same_then ?_ HK1.out (fun k hk => by omega))))
set_option maxHeartbeats 2000000 in
set_option maxRecDepth 100000 in
theorem reads_false (s : St) (i : In) (x y n : Int) (hs : s.Ok) (hi : i.Ok) (x0 : 0 ≤ x) (x1 : x < 4294967296) (y0 : 0 ≤ y) (y1 : y < 4294967296) (n0 : 0 ≤ n) (n1 : n < 256) (hb : (bits .and .u8 (bits .or .u8 (setL i abp (regR i.a i.b)) (setL i ALP (regW i.a i.b)) / 2 ^ (n % 8).toNat) 1 == 1) = false) (hl : doL (s.setR (n % 8).toNat x) i y = ((doL s i y).1.setR (n % 8).toNat x, (doL s i y).2)) (hk : (doL s i y).1.R (n % 8).toNat = s.R (n % 8).toNat) (w : World) :
    Calls Try.prog 9 #[.agg (stA s), .agg (inA i), .agg #[.int .u32 x, .int .u32 y, .int .u8 n]] w fun e w' => e = .returned (.bool true) ∧ Same w w' := by
  have HR := hidE (fun w tb htb ht => reads_ok w tb htb i hi ht)
  have HW := hidE (fun w tb htb ht => writes_ok w tb htb i hi ht)
  have h8 : (n % 8).toNat < 8 := by omega
  have h80 : 0 ≤ n % 8 := by omega
  have HD := hidE (fun w => do_any s i y hs hi y0 y1 w)
  have HE := hidE (fun w => do_any (s.setR (n % 8).toNat x) i y (setR_ok hs x0 x1) hi y0 y1 w)
  rw [hl] at HE
  have hfin : ((doL s i y).1.setR (n % 8).toNat x).setR (n % 8).toNat (s.R (n % 8).toNat) = (doL s i y).1 := by rw [setR_setR, ← hk, setR_self]
  generalize doL s i y = D at *
  obtain ⟨D1, D2⟩ := D
  simp only at HD HE hfin
  have HFIN := hidE hfin
  clear hl hk hfin
  generalize setL i abp (regR i.a i.b) = MR at *
  generalize setL i ALP (regW i.a i.b) = MW at *
  obtain ⟨op, a, b, imm⟩ := i
  simp only [inA] at *
  clear hs hi
  go_enter Try.func9, Try.ntmps9
  go_wp2_with fail
  refine (kind_new _).mono ?_
  rintro e w1 ⟨rfl, htn, hk⟩
  (obtain ⟨hc1, hf1, hr1, -, -, -⟩ := same_facts hk); have lt_w1_0 : w.heap.size < w1.heap.size := (by have hh := (hk).size; (try simp at hh); omega); have lt_w1_1 : w.heap.size + 1 < w1.heap.size := (by have hh := (hk).size; (try simp at hh); omega); have lt_w1_2 : w.heap.size + 1 + 1 < w1.heap.size := (by have hh := (hk).size; (try simp at hh); omega); have lt_w1_3 : w.heap.size + 1 + 1 + 1 < w1.heap.size := (by have hh := (hk).size; (try simp at hh); omega); have lt1_w1_0 : w.heap.size < w1.heap.size + 1 := (by omega); have lt2_w1_0 : w.heap.size < w1.heap.size + 1 + 1 := (by omega); have lt1_w1_1 : w.heap.size + 1 < w1.heap.size + 1 := (by omega); have lt2_w1_1 : w.heap.size + 1 < w1.heap.size + 1 + 1 := (by omega); have lt1_w1_2 : w.heap.size + 1 + 1 < w1.heap.size + 1 := (by omega); have lt2_w1_2 : w.heap.size + 1 + 1 < w1.heap.size + 1 + 1 := (by omega); have lt1_w1_3 : w.heap.size + 1 + 1 + 1 < w1.heap.size + 1 := (by omega); have lt2_w1_3 : w.heap.size + 1 + 1 + 1 < w1.heap.size + 1 + 1 := (by omega); have rw_w1_0 := (hr1 (w.heap.size) (by (try simp); (try omega))).trans (show rowAt _ (w.heap.size) = _ by go_simp; rfl); have rw_w1_1 := (hr1 (w.heap.size + 1) (by (try simp); (try omega))).trans (show rowAt _ (w.heap.size + 1) = _ by go_simp; rfl); have rw_w1_2 := (hr1 (w.heap.size + 1 + 1) (by (try simp); (try omega))).trans (show rowAt _ (w.heap.size + 1 + 1) = _ by go_simp; rfl); have rw_w1_3 := (hr1 (w.heap.size + 1 + 1 + 1) (by (try simp); (try omega))).trans (show rowAt _ (w.heap.size + 1 + 1 + 1) = _ by go_simp; rfl); have HK1 := hidE hk; clear hk
  simp only [World.size_alloc] at htn
  have HT := hidE htn
  have ltb : w.heap.size + 1 + 1 + 1 + 1 < w1.heap.size := by
    have h := lt_of_block HT.out
    exact h
  clear htn
  go_wp2_with fail
  refine wp_region_rb (T := TT (w.heap.size + 1 + 1 + 1 + 1)) [0, 1, 2, 3, 4, 5, 6, 7, 8, 9, 10] [] 0 (TS w1 (w.heap.size + 1 + 1 + 1 + 1)) (by kernel_rfl) (by kernel_rfl) TS.next ⟨(Keeps.refl _ _).drew, .inl HT.out⟩ ?_
  simp only [opsOf, List.filterMap_cons, List.filterMap_nil, List.getElem?_cons_zero, List.getElem?_cons_succ]
  repeat (refine seqT_run (TT.refl _) (v := ?_) rfl (fun u hu => ?_) ?_; rotate_left; (focus (obtain ⟨hc, hf, hr⟩ := keeps_factsR hu.1; clear hu; go_simp; first | done | with_reducible rfl)); (try simp only [Act.put, List.setIfInBounds_toArray, List.set_cons_zero, List.set_cons_succ]))
  refine seqT_call (f := 24) (args := #[.pointer (some ⟨w.heap.size + 1 + 1 + 1 + 1, 0, none⟩), .agg #[.int .u8 op, .int .u8 a, .int .u8 b, .int .i32 imm]]) (v := .int .u8 MR) rfl (fun u hu => ?_) (fun u hu => (HR.out u _ (Nat.lt_of_lt_of_le ltb hu.1.size) hu.2).mono fun e w' h => ⟨h.1, h.2.1, fun _ => h.2.2⟩) ?_
  · (obtain ⟨hc, hf, hr⟩ := keeps_factsR hu.1; clear hu; go_simp)
  simp only [Act.put, List.setIfInBounds_toArray, List.set_cons_zero, List.set_cons_succ]
  repeat (refine seqT_run (TT.refl _) (v := ?_) rfl (fun u hu => ?_) ?_; rotate_left; (focus (obtain ⟨hc, hf, hr⟩ := keeps_factsR hu.1; clear hu; go_simp; first | done | with_reducible rfl)); (try simp only [Act.put, List.setIfInBounds_toArray, List.set_cons_zero, List.set_cons_succ]))
  refine seqT_call (f := 22) (args := #[.pointer (some ⟨w.heap.size + 1 + 1 + 1 + 1, 0, none⟩), .agg #[.int .u8 op, .int .u8 a, .int .u8 b, .int .i32 imm]]) (v := .int .u8 MW) rfl (fun u hu => ?_) (fun u hu => (HW.out u _ (Nat.lt_of_lt_of_le ltb hu.1.size) hu.2).mono fun e w' h => ⟨h.1, h.2.1, fun _ => h.2.2⟩) ?_
  · (obtain ⟨hc, hf, hr⟩ := keeps_factsR hu.1; clear hu; go_simp)
  simp only [Act.put, List.setIfInBounds_toArray, List.set_cons_zero, List.set_cons_succ]
  repeat (refine seqT_run (TT.refl _) (v := ?_) rfl (fun u hu => ?_) ?_; rotate_left; (focus (obtain ⟨hc, hf, hr⟩ := keeps_factsR hu.1; clear hu; go_simp; first | done | with_reducible rfl)); (try simp only [Act.put, List.setIfInBounds_toArray, List.set_cons_zero, List.set_cons_succ]))
  refine seqT_nil ?_
  refine tailT_zero fun w2 hu _ => ?_
  obtain ⟨hc2, hf2, hr2⟩ := keeps_factsR hu.1
  have z2 := hu.1.size
  have lt_w2_0 : w.heap.size < w2.heap.size := by omega
  have lt1_w2_0 : w.heap.size < w2.heap.size + 1 := by omega
  have rw_w2_0 := (hr2 (w.heap.size) (by omega) (by omega)).trans rw_w1_0
  have lt_w2_1 : w.heap.size + 1 < w2.heap.size := by omega
  have lt1_w2_1 : w.heap.size + 1 < w2.heap.size + 1 := by omega
  have rw_w2_1 := (hr2 (w.heap.size + 1) (by omega) (by omega)).trans rw_w1_1
  have lt_w2_2 : w.heap.size + 1 + 1 < w2.heap.size := by omega
  have lt1_w2_2 : w.heap.size + 1 + 1 < w2.heap.size + 1 := by omega
  have rw_w2_2 := (hr2 (w.heap.size + 1 + 1) (by omega) (by omega)).trans rw_w1_2
  have lt_w2_3 : w.heap.size + 1 + 1 + 1 < w2.heap.size := by omega
  have lt1_w2_3 : w.heap.size + 1 + 1 + 1 < w2.heap.size + 1 := by omega
  have rw_w2_3 := (hr2 (w.heap.size + 1 + 1 + 1) (by omega) (by omega)).trans rw_w1_3
  have HK2 := hidE hu.1
  clear hu
  go_wp2_with fail
  refine (HD.out _).mono ?_
  rintro e w3 ⟨rfl, hk⟩
  (obtain ⟨hc3, hf3, hr3, -, -, -⟩ := same_facts hk); have lt_w3_0 : w.heap.size < w3.heap.size := (by have hh := (hk).size; (try simp at hh); omega); have lt_w3_1 : w.heap.size + 1 < w3.heap.size := (by have hh := (hk).size; (try simp at hh); omega); have lt_w3_2 : w.heap.size + 1 + 1 < w3.heap.size := (by have hh := (hk).size; (try simp at hh); omega); have lt_w3_3 : w.heap.size + 1 + 1 + 1 < w3.heap.size := (by have hh := (hk).size; (try simp at hh); omega); have lt1_w3_0 : w.heap.size < w3.heap.size + 1 := (by omega); have lt2_w3_0 : w.heap.size < w3.heap.size + 1 + 1 := (by omega); have lt1_w3_1 : w.heap.size + 1 < w3.heap.size + 1 := (by omega); have lt2_w3_1 : w.heap.size + 1 < w3.heap.size + 1 + 1 := (by omega); have lt1_w3_2 : w.heap.size + 1 + 1 < w3.heap.size + 1 := (by omega); have lt2_w3_2 : w.heap.size + 1 + 1 < w3.heap.size + 1 + 1 := (by omega); have lt1_w3_3 : w.heap.size + 1 + 1 + 1 < w3.heap.size + 1 := (by omega); have lt2_w3_3 : w.heap.size + 1 + 1 + 1 < w3.heap.size + 1 + 1 := (by omega); have rw_w3_0 := (hr3 (w.heap.size) (by (try simp); (try omega))).trans (show rowAt _ (w.heap.size) = _ by go_simp; rfl); have rw_w3_1 := (hr3 (w.heap.size + 1) (by (try simp); (try omega))).trans (show rowAt _ (w.heap.size + 1) = _ by go_simp; rfl); have rw_w3_2 := (hr3 (w.heap.size + 1 + 1) (by (try simp); (try omega))).trans (show rowAt _ (w.heap.size + 1 + 1) = _ by go_simp; rfl); have rw_w3_3 := (hr3 (w.heap.size + 1 + 1 + 1) (by (try simp); (try omega))).trans (show rowAt _ (w.heap.size + 1 + 1 + 1) = _ by go_simp; rfl); have HK3 := hidE hk; clear hk
  have rw_w3_0 := (hr3 (w2.heap.size) (by (try simp); (try omega))).trans (show rowAt _ (w2.heap.size) = _ by go_simp; rfl)
  have lt_w3_0 : w2.heap.size < w3.heap.size := (by have hh := (HK3.out).size; (try simp at hh); omega); have lt1_w3_0 : w2.heap.size < w3.heap.size + 1 := (by omega); have lt2_w3_0 : w2.heap.size < w3.heap.size + 1 + 1 := (by omega)
  have nn_w2_0_0 : w.heap.size ≠ w2.heap.size := (by omega); have mm_w2_0_0 : w2.heap.size ≠ w.heap.size := (by omega); have nn_w2_0_1 : w.heap.size + 1 ≠ w2.heap.size := (by omega); have mm_w2_0_1 : w2.heap.size ≠ w.heap.size + 1 := (by omega); have nn_w2_0_2 : w.heap.size + 1 + 1 ≠ w2.heap.size := (by omega); have mm_w2_0_2 : w2.heap.size ≠ w.heap.size + 1 + 1 := (by omega); have nn_w2_0_3 : w.heap.size + 1 + 1 + 1 ≠ w2.heap.size := (by omega); have mm_w2_0_3 : w2.heap.size ≠ w.heap.size + 1 + 1 + 1 := (by omega)
  go_wp2_with fail
  refine (HE.out _).mono ?_
  rintro e w4 ⟨rfl, hk⟩
  (obtain ⟨hc4, hf4, hr4, -, -, -⟩ := same_facts hk); have lt_w4_0 : w.heap.size < w4.heap.size := (by have hh := (hk).size; (try simp at hh); omega); have lt_w4_1 : w.heap.size + 1 < w4.heap.size := (by have hh := (hk).size; (try simp at hh); omega); have lt_w4_2 : w.heap.size + 1 + 1 < w4.heap.size := (by have hh := (hk).size; (try simp at hh); omega); have lt_w4_3 : w.heap.size + 1 + 1 + 1 < w4.heap.size := (by have hh := (hk).size; (try simp at hh); omega); have lt1_w4_0 : w.heap.size < w4.heap.size + 1 := (by omega); have lt2_w4_0 : w.heap.size < w4.heap.size + 1 + 1 := (by omega); have lt1_w4_1 : w.heap.size + 1 < w4.heap.size + 1 := (by omega); have lt2_w4_1 : w.heap.size + 1 < w4.heap.size + 1 + 1 := (by omega); have lt1_w4_2 : w.heap.size + 1 + 1 < w4.heap.size + 1 := (by omega); have lt2_w4_2 : w.heap.size + 1 + 1 < w4.heap.size + 1 + 1 := (by omega); have lt1_w4_3 : w.heap.size + 1 + 1 + 1 < w4.heap.size + 1 := (by omega); have lt2_w4_3 : w.heap.size + 1 + 1 + 1 < w4.heap.size + 1 + 1 := (by omega); have rw_w4_0 := (hr4 (w.heap.size) (by (try simp); (try omega))).trans (show rowAt _ (w.heap.size) = _ by go_simp; rfl); have rw_w4_1 := (hr4 (w.heap.size + 1) (by (try simp); (try omega))).trans (show rowAt _ (w.heap.size + 1) = _ by go_simp; rfl); have rw_w4_2 := (hr4 (w.heap.size + 1 + 1) (by (try simp); (try omega))).trans (show rowAt _ (w.heap.size + 1 + 1) = _ by go_simp; rfl); have rw_w4_3 := (hr4 (w.heap.size + 1 + 1 + 1) (by (try simp); (try omega))).trans (show rowAt _ (w.heap.size + 1 + 1 + 1) = _ by go_simp; rfl); have HK4 := hidE hk; clear hk
  have rw_w4_0 := (hr4 (w2.heap.size) (by (try simp); (try omega))).trans (show rowAt _ (w2.heap.size) = _ by go_simp; rfl)
  have lt_w4_0 : w2.heap.size < w4.heap.size := (by have hh := (HK4.out).size; (try simp at hh); omega); have lt1_w4_0 : w2.heap.size < w4.heap.size + 1 := (by omega); have lt2_w4_0 : w2.heap.size < w4.heap.size + 1 + 1 := (by omega)
  have rw_w4_0 := (hr4 (w3.heap.size) (by (try simp); (try omega))).trans (show rowAt _ (w3.heap.size) = _ by go_simp; rfl); have rw_w4_1 := (hr4 (w3.heap.size + 1) (by (try simp); (try omega))).trans (show rowAt _ (w3.heap.size + 1) = _ by go_simp; rfl)
  have lt_w4_0 : w3.heap.size < w4.heap.size := (by have hh := (HK4.out).size; (try simp at hh); omega); have lt_w4_1 : w3.heap.size + 1 < w4.heap.size := (by have hh := (HK4.out).size; (try simp at hh); omega); have lt1_w4_0 : w3.heap.size < w4.heap.size + 1 := (by omega); have lt2_w4_0 : w3.heap.size < w4.heap.size + 1 + 1 := (by omega); have lt1_w4_1 : w3.heap.size + 1 < w4.heap.size + 1 := (by omega); have lt2_w4_1 : w3.heap.size + 1 < w4.heap.size + 1 + 1 := (by omega)
  have nn_w3_0_0 : w.heap.size ≠ w3.heap.size := (by omega); have mm_w3_0_0 : w3.heap.size ≠ w.heap.size := (by omega); have nn_w3_1_0 : w.heap.size ≠ w3.heap.size + 1 := (by omega); have mm_w3_1_0 : w3.heap.size + 1 ≠ w.heap.size := (by omega); have nn_w3_0_1 : w.heap.size + 1 ≠ w3.heap.size := (by omega); have mm_w3_0_1 : w3.heap.size ≠ w.heap.size + 1 := (by omega); have nn_w3_1_1 : w.heap.size + 1 ≠ w3.heap.size + 1 := (by omega); have mm_w3_1_1 : w3.heap.size + 1 ≠ w.heap.size + 1 := (by omega); have nn_w3_0_2 : w.heap.size + 1 + 1 ≠ w3.heap.size := (by omega); have mm_w3_0_2 : w3.heap.size ≠ w.heap.size + 1 + 1 := (by omega); have nn_w3_1_2 : w.heap.size + 1 + 1 ≠ w3.heap.size + 1 := (by omega); have mm_w3_1_2 : w3.heap.size + 1 ≠ w.heap.size + 1 + 1 := (by omega); have nn_w3_0_3 : w.heap.size + 1 + 1 + 1 ≠ w3.heap.size := (by omega); have mm_w3_0_3 : w3.heap.size ≠ w.heap.size + 1 + 1 + 1 := (by omega); have nn_w3_1_3 : w.heap.size + 1 + 1 + 1 ≠ w3.heap.size + 1 := (by omega); have mm_w3_1_3 : w3.heap.size + 1 ≠ w.heap.size + 1 + 1 + 1 := (by omega)
  have hfin := HFIN.out
  go_wp2_with fail
  refine (works8 _).mono ?_
  rintro e w9 ⟨rfl, hk⟩
  have HK9 := hidE hk
  clear hk
  go_wp2
  go_ret
  refine ⟨rfl, ?_⟩
  refine Keeps.trans ?_ HK9.out
  (repeat (first | with_reducible exact Keeps.refl _ _ | (with_reducible refine Keeps.drew ?_) | (with_reducible refine Keeps.alloc ?_ _) | (with_reducible refine Keeps.setRow ?_ (fun h => absurd h (by omega)) _) | (with_reducible refine Keeps.setCell ?_ (fun h => absurd h (by simp only []; omega)) _) | (with_reducible refine Keeps.trans ?_ HK8.out) | (with_reducible refine same_then ?_ HK8.out (fun k hk => by omega)) | (with_reducible refine Keeps.trans ?_ HK7.out) | (with_reducible refine same_then ?_ HK7.out (fun k hk => by omega)) | (with_reducible refine Keeps.trans ?_ HK6.out) | (with_reducible refine same_then ?_ HK6.out (fun k hk => by omega)) | (with_reducible refine Keeps.trans ?_ HK5.out) | (with_reducible refine same_then ?_ HK5.out (fun k hk => by omega)) | (with_reducible refine Keeps.trans ?_ HK4.out) | (with_reducible refine same_then ?_ HK4.out (fun k hk => by omega)) | (with_reducible refine Keeps.trans ?_ HK3.out) | (with_reducible refine same_then ?_ HK3.out (fun k hk => by omega)) | (with_reducible refine Keeps.trans ?_ HK2.out) | (with_reducible refine same_then ?_ HK2.out (fun k hk => by omega)) | (with_reducible refine Keeps.trans ?_ HK1.out) | (with_reducible refine same_then ?_ HK1.out (fun k hk => by omega))))
theorem coreReads_walk (w : World) (s0 : Array Value) (h0 : RdV Try.prog w 25 s0.toList) (s1 : Array Value) (h1 : RdV Try.prog w 27 s1.toList) (s2 : Array Value) (h2 : RdV Try.prog w 46 s2.toList) :
    Calls Try.prog 9 #[.agg s0, .agg s1, .agg s2] w fun e w' => e = .returned (.bool true) ∧ Below w.heap.size w w' := by
  obtain ⟨s, rfl, hs⟩ := st_open h0
  obtain ⟨i, rfl, hi⟩ := in_open h1
  obtain ⟨x, y, n, rfl, x0, x1, y0, y1, n0, n1⟩ := oth_open h2
  refine Calls.mono (?_ : Calls _ _ _ _ fun e w' => e = .returned (.bool true) ∧ Same w w') fun e w' h => ⟨h.1, same_below h.2⟩
  cases hb : (bits .and .u8 (bits .or .u8 (setL i abp (regR i.a i.b)) (setL i ALP (regW i.a i.b)) / 2 ^ (n % 8).toNat) 1 == 1)
  · have h8 : (n % 8).toNat < 8 := by omega
    cases hm : mayB i true
    · have hm' : mayB i false = false := by
        cases h : mayB i false
        · rfl
        · rw [may_host h] at hm; exact hm
      have e1 := doL_none s i y hm'
      have e2 := doL_none (s.setR (n % 8).toNat x) i y hm'
      refine reads_false s i x y n hs hi x0 x1 y0 y1 n0 n1 hb ?_ ?_ w
      · rw [e1, e2]; rfl
      · rw [e1]
    · obtain ⟨a1, b1⟩ := may_regs_h hm
      have hbb := hb
      simp only [setL, if_pos hm] at hbb
      have bo0 := bits_lo_u8 .or (accL abp (kindM i.op).2 (regR i.a i.b) 3) (accL ALP (kindM i.op).2 (regW i.a i.b) 3)
      have bo1 := bits_hi_u8 .or (accL abp (kindM i.op).2 (regR i.a i.b) 3) (accL ALP (kindM i.op).2 (regW i.a i.b) 3)
      have q0 := Int.ediv_nonneg bo0 (show (0 : Int) ≤ 2 ^ (n % 8).toNat from Int.pow_nonneg (by omega))
      have q1 := Int.ediv_le_self (2 ^ (n % 8).toNat) bo0
      have hf := free_of i (n % 8).toNat h8 hi.a0 a1 hi.b0 b1 (fun hc => by
        rw [u8_one _ q0 (by omega), hc] at hbb
        cases hbb)
      exact reads_false s i x y n hs hi x0 x1 y0 y1 n0 n1 hb (rd_law s i y _ x hf) (kept_law s i y _ hs hf) w
  · exact reads_true s i x y n hs hi x0 x1 y0 y1 n0 n1 hb w
end Go.Proofs.Ytdbfjgmehmbefaa
