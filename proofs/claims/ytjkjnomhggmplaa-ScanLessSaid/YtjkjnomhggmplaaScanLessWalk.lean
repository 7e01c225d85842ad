/- The walk of ScanLess: with a lower bound a block is the beginning of what it is with a greater one. -/
import Derived.Test.YtjkjnomhggmplaaCmp
namespace Go.Proofs.Ytjkjnomhggmplaa
open Go.RowKit
attribute [local go_sem ↓] Go.wp_at_zero Go.wp_at_succ
attribute [local go_sem ↓] x_ldG x_ldSt x_neIn x_neFl x_ldFl x_ldIn

set_option maxRecDepth 100000 in
set_option maxHeartbeats 4000000 in
theorem scanLess_walk (w : World) (s0 : Array Value) (h0 : RdV Try.prog w 31 s0.toList) (x1 : Int) (h1 : RdV Try.prog w 5 [.int .u8 x1]) (x2 : Int) (h2 : RdV Try.prog w 5 [.int .u8 x2]) :
    Calls Try.prog 4 #[.agg s0, .int .u8 x1, .int .u8 x2] w fun e w' => e = .returned (.bool true) ∧ Below w.heap.size w w' := by
  obtain ⟨fr, ia, il, ic, X, ca, cl, cc, Y, en, root, ps, pc, hG⟩ := guest_open h0
  obtain ⟨x, e, m0, m1⟩ := h1.int (k := .u8) Try.underlying5
  simp only [List.cons.injEq, Value.int.injEq, true_and, and_true] at e
  subst e
  obtain ⟨x, e, k0, k1⟩ := h2.int (k := .u8) Try.underlying5
  simp only [List.cons.injEq, Value.int.injEq, true_and, and_true] at e
  subst e
  simp [IntKind.min, IntKind.max, IntKind.bits, IntKind.signed] at m0 m1 k0 k1
  refine Calls.mono (R := fun e w' => e = .returned (.bool true) ∧ Same w w') ?_ (fun e w' h => ⟨h.1, same_below h.2⟩)
  have hsz := hG.size
  have HG := hidE hG
  clear h0 h1 h2 hG
  obtain ⟨P, hP⟩ : ∃ P : Nat, x1 % 32 = (P : Int) := ⟨(x1 % 32).toNat, by omega⟩
  obtain ⟨Q, hQ⟩ : ∃ Q : Nat, x2 % 32 = (Q : Int) := ⟨(x2 % 32).toNat, by omega⟩
  have t1 : x1.tmod 32 = (P : Int) := by rw [Int.tmod_eq_emod_of_nonneg m0, hP]
  have t2 : x2.tmod 32 = (Q : Int) := by rw [Int.tmod_eq_emod_of_nonneg k0, hQ]
  have P32 : P < 32 := by omega
  have Q32 : Q < 32 := by omega
  have u1 : IntKind.u8.wrap (P : Int) = (P : Int) := by simp [IntKind.wrap, IntKind.bits, IntKind.signed]; omega
  have u2 : IntKind.u8.wrap (Q : Int) = (Q : Int) := by simp [IntKind.wrap, IntKind.bits, IntKind.signed]; omega
  have u3 := wrapI (P : Int) (by omega) (by omega)
  have u4 := wrapI (Q : Int) (by omega) (by omega)
  obtain ⟨X, hX⟩ : ∃ X : Nat, X = 1 + P := ⟨_, rfl⟩
  obtain ⟨Y, hY⟩ : ∃ Y : Nat, Y = X + Q := ⟨_, rfl⟩
  have u5 : 1 + (P : Int) = (X : Int) := by omega
  have u6 : (X : Int) + (Q : Int) = (Y : Int) := by omega
  have u7 := wrapI (X : Int) (by omega) (by omega)
  have u8 := wrapI (Y : Int) (by omega) (by omega)
  have HX := hidE (show 1 ≤ X ∧ X ≤ 32 ∧ X ≤ Y ∧ Y < 65 by omega)
  clear hX hY
  clear hP hQ
  go_enter Try.func4, Try.ntmps4
  have hld := ld_G (w := w.alloc (.cells s0 31)) (block_new _ _) hsz
  go_wp2_with fail
  refine (made_any (HG.out.same ((Keeps.refl _ _).alloc _))).mono ?_
  rintro _ w1 ⟨R, M, g, rfl, hR, hk1⟩
  have B1 := hidE (hk1.get (block_new w (.cells s0 31)) id)
  have HK1 := hidE (((Keeps.refl (fun _ => False) w).alloc (.cells s0 31)).trans hk1)
  have HR := hidE hR
  clear hk1 hR hld
  have B2 := hidE (block_old (.cells #[.slice (some ⟨g, 0, none⟩) (64 * R.n) (64 * R.n)] 34) B1.out)
  have hld := ld_StateAt B2.out hsz
  have hR2 := HR.out.same ((Keeps.refl (fun _ => False) w1).alloc (.cells #[.slice (some ⟨g, 0, none⟩) (64 * R.n) (64 * R.n)] 34))
  have HR2 := hidE hR2
  have HSc := hidE (scan_any _ hR2 _ root ps pc HG.out.st (X : Int) (by omega) (by have := HX.out; omega))
  have HL := hidE (scanL_less (R := R) (M := M) (root := root) (ps := ps) (pc := pc) (x := X) (y := Y) HX.out.1 HX.out.2.1 HX.out.2.2.1)
  have HE1 := hidE (scanL_ends HR.out root ps pc (X : Int) HG.out.st.hc)
  have HE2 := hidE (scanL_ends HR.out root ps pc (Y : Int) HG.out.st.hc)
  have HSd := hidE (fun w' (k : Same _ w') => scan_any w' (hR2.same k) _ root ps pc HG.out.st (Y : Int) (by omega) (by have := HX.out; omega))
  clear hR2
  generalize scanL R M root ps pc (X : Int) = Z at *
  generalize scanL R M root ps pc (Y : Int) = Z2 at *
  go_wp2_with fail
  refine HSc.out.mono ?_
  rintro _ w2 ⟨vi, va, vf, vt, rfl, hB, hk2⟩
  obtain ⟨zc, za, b⟩ := Z
  obtain ⟨yc, ya, d⟩ := Z2
  obtain ⟨hL1, hL2, hL3, hL4, hL5, hL6, hL7⟩ := HL.out
  simp only at hB HE1 HE2 HSd hL1 hL2 hL3 hL4 hL5 hL6 hL7
  subst hL1 hL2
  have HB := hidE hB
  have HL3 := hidE hL3
  have HL4 := hidE hL4
  have HL7 := hidE hL7
  have HK2 := hidE ((HK1.out.alloc (.cells #[.slice (some ⟨g, 0, none⟩) (64 * R.n) (64 * R.n)] 34)).trans hk2)
  have B3 := hidE (hk2.get B2.out id)
  have HKa := hidE hk2
  clear hk2 hld HL hL3 hL4 hL7
  simp only [blA, flV]
  obtain ⟨pi, ci, rfl⟩ := owns_sl hB.ri
  obtain ⟨pa, ca, rfl⟩ := owns_sl hB.ra
  obtain ⟨pf, cf, rfl⟩ := owns_sl hB.rf
  obtain ⟨pt, ct, rfl⟩ := owns_sl hB.rt
  clear hB
  rw [hL5]
  have kA : Same w2 ((w2.alloc (.cells #[.slice pi b.ins.length ci, .slice pa b.ins.length ca, .int .u32 (b.next : Nat), .int .u32 (b.to : Nat), .int .i64 b.en, .slice pf b.fr.length cf, .slice pt b.tb.length ct] 40)).alloc (.cells #[.int .i64 zc, .int .u32 (za : Nat)] 42)) := ((Keeps.refl _ _).alloc _).alloc _
  have hld := ld_StateAt (kA.get B3.out id) hsz
  have HA := hidE (And.intro (block_old (.cells #[.int .i64 zc, .int .u32 (za : Nat)] 42) (block_new w2 (.cells #[.slice pi b.ins.length ci, .slice pa b.ins.length ca, .int .u32 (b.next : Nat), .int .u32 (b.to : Nat), .int .i64 b.en, .slice pf b.fr.length cf, .slice pt b.tb.length ct] 40))) (show ((w2.alloc (.cells #[.slice pi b.ins.length ci, .slice pa b.ins.length ca, .int .u32 (b.next : Nat), .int .u32 (b.to : Nat), .int .i64 b.en, .slice pf b.fr.length cf, .slice pt b.tb.length ct] 40)).alloc (.cells #[.int .i64 zc, .int .u32 (za : Nat)] 42)).heap[w2.heap.size + 1]? = some (.cells #[.int .i64 zc, .int .u32 (za : Nat)] 42) from by have h := block_new (w2.alloc (.cells #[.slice pi b.ins.length ci, .slice pa b.ins.length ca, .int .u32 (b.next : Nat), .int .u32 (b.to : Nat), .int .i64 b.en, .slice pf b.fr.length cf, .slice pt b.tb.length ct] 40)) (.cells #[.int .i64 zc, .int .u32 (za : Nat)] 42); rw [show (w2.alloc (.cells #[.slice pi b.ins.length ci, .slice pa b.ins.length ca, .int .u32 (b.next : Nat), .int .u32 (b.to : Nat), .int .i64 b.en, .slice pf b.fr.length cf, .slice pt b.tb.length ct] 40)).heap.size = w2.heap.size + 1 from by simp] at h; exact h))
  have HKA := hidE kA
  clear kA
  go_wp2_with fail
  refine (HSd.out _ (HKa.out.trans HKA.out)).mono ?_
  rintro _ w3 ⟨wi, wa, wf, wt, rfl, hD, hk3⟩
  simp only [blA, flV]
  have HD := hidE hD
  obtain ⟨qi, di, rfl⟩ := owns_sl hD.ri
  obtain ⟨qa, da, rfl⟩ := owns_sl hD.ra
  obtain ⟨qf, df, rfl⟩ := owns_sl hD.rf
  obtain ⟨qt, dt, rfl⟩ := owns_sl hD.rt
  clear hD hld
  rw [hL6]
  have kD : Same w3 ((w3.alloc (.cells #[.slice qi d.ins.length di, .slice qa d.ins.length da, .int .u32 (d.next : Nat), .int .u32 (d.to : Nat), .int .i64 d.en, .slice qf d.fr.length df, .slice qt d.tb.length dt] 40)).alloc (.cells #[.int .i64 zc, .int .u32 (za : Nat)] 42)) := ((Keeps.refl _ _).alloc _).alloc _
  have d1 := kD.get (hk3.get HA.out.1 id) id
  have d2 := kD.get (hk3.get HA.out.2 id) id
  have d3 := block_old (.cells #[.int .i64 zc, .int .u32 (za : Nat)] 42) (block_new w3 (.cells #[.slice qi d.ins.length di, .slice qa d.ins.length da, .int .u32 (d.next : Nat), .int .u32 (d.to : Nat), .int .i64 d.en, .slice qf d.fr.length df, .slice qt d.tb.length dt] 40))
  have d4 : ((w3.alloc (.cells #[.slice qi d.ins.length di, .slice qa d.ins.length da, .int .u32 (d.next : Nat), .int .u32 (d.to : Nat), .int .i64 d.en, .slice qf d.fr.length df, .slice qt d.tb.length dt] 40)).alloc (.cells #[.int .i64 zc, .int .u32 (za : Nat)] 42)).heap[w3.heap.size + 1]? = some (.cells #[.int .i64 zc, .int .u32 (za : Nat)] 42) := by have h := block_new (w3.alloc (.cells #[.slice qi d.ins.length di, .slice qa d.ins.length da, .int .u32 (d.next : Nat), .int .u32 (d.to : Nat), .int .i64 d.en, .slice qf d.fr.length df, .slice qt d.tb.length dt] 40)) (.cells #[.int .i64 zc, .int .u32 (za : Nat)] 42); rw [show (w3.alloc (.cells #[.slice qi d.ins.length di, .slice qa d.ins.length da, .int .u32 (d.next : Nat), .int .u32 (d.to : Nat), .int .i64 d.en, .slice qf d.fr.length df, .slice qt d.tb.length dt] 40)).heap.size = w3.heap.size + 1 from by simp] at h; exact h
  have HW := hidE (And.intro d1 d3)
  have HKD := hidE kD
  have HK3 := hidE (HK2.out.trans (HKA.out.trans (hk3.trans kD)))
  have HKB := hidE (HKA.out.trans (hk3.trans kD))
  have f1 := ld_Fl d2
  have f2 := ld_Fl d4
  have c1 := cell_of d1
  have c3 := cell_of d3
  have hle := HL3.out.length_le
  have q1 : decide (d.ins.length < b.ins.length) = false := decide_eq_false (by omega)
  have q1' : decide ((d.ins.length : Int) < (b.ins.length : Int)) = false := decide_eq_false (by omega)
  have q2 := ne_Fl zc (za : Nat)
  clear kD hk3 d1 d2 d3 d4
  have n1 : b.ins.length ≤ 32 := by
    by_cases hz : zc = 0
    · exact (HE1.out.2 hz).n2
    · rw [HE1.out.1 hz]; simp [bl0]
  have n2 : d.ins.length ≤ 32 := by
    by_cases hz : zc = 0
    · exact (HE2.out.2 hz).n2
    · rw [HE2.out.1 hz]; simp [bl0]
  go_wp2_with fail
  clear c1 c3 f1 f2 q2
  go_loopw [15] (fun t15 wr => ∃ j : Nat, j ≤ b.ins.length ∧ t15 = .int .i64 j ∧ Same ((w3.alloc (.cells #[.slice qi d.ins.length di, .slice qa d.ins.length da, .int .u32 (d.next : Nat), .int .u32 (d.to : Nat), .int .i64 d.en, .slice qf d.fr.length df, .slice qt d.tb.length dt] 40)).alloc (.cells #[.int .i64 zc, .int .u32 (za : Nat)] 42)) wr) (fun t15 _ => b.ins.length - (intOf t15).toNat)
  case atStart => exact ⟨0, by omega, rfl, Keeps.refl _ _⟩
  case round =>
    obtain ⟨j, hj, rfl, hS⟩ := hrel
    have HS := hidE hS
    have e3 := wrapI ((j : Int) + 1) (by omega) (by omega)
    have HV := hidE (And.intro (hS.get HW.out.1 id) (hS.get HW.out.2 id))
    have r1 := cell_of HV.out.1
    clear hS
    by_cases hlt : j < b.ins.length
    · have p0 : decide ((j : Int) < (b.ins.length : Int)) = true := decide_eq_true (by omega)
      have hlt2 : j < d.ins.length := by omega
      obtain ⟨gi, _, hv, -, -, -, hi1⟩ := rowN_get HB.out.ri (by omega)
      obtain rfl : pi = some ⟨gi, 0, none⟩ := by cases hv; rfl
      obtain ⟨gj, _, hw, -, -, -, hi2⟩ := rowN_get HD.out.ri (by omega)
      obtain rfl : qi = some ⟨gj, 0, none⟩ := by cases hw; rfl
      obtain ⟨ga, _, hva, -, -, -, -, ha1⟩ := rowU_get HB.out.ra (j := j) (by omega)
      obtain rfl : pa = some ⟨ga, 0, none⟩ := by cases hva; rfl
      obtain ⟨gb, _, hwa, -, -, -, -, ha2⟩ := rowU_get HD.out.ra (j := j) (by omega)
      obtain rfl : qa = some ⟨gb, 0, none⟩ := by cases hwa; rfl
      have i1 := hi1 j hlt
      have i2 := hi2 j hlt2
      have a1 := ha1 j (by omega)
      have a2 := ha2 j (by omega)
      rw [← HL3.out.getElem hlt] at i2
      rw [← HL4.out.getElem (by omega)] at a2
      generalize b.ins[j] = y at i1 i2
      generalize b.at_[j] = z at a1 a2
      obtain ⟨yo, ya, yb, yi⟩ := y
      simp only at i1 i2
      have I1 := hidE (And.intro (HKB.out.trans HS.out) i1)
      have I2 := hidE (And.intro (HKD.out.trans HS.out) i2)
      have A1 := hidE (cell_same (HKB.out.trans HS.out) a1)
      have A2 := hidE (cell_same (HKD.out.trans HS.out) a2)
      have ne := ne_In yo ya yb yi
      clear hv hw hva hwa hi1 hi2 ha1 ha2 i1 i2 a1 a2
      go_wp2_with fail
      clear r1
      refine wp_region_ra [0, 1, 2, 3, 4, 5, 6, 7, 8, 9, 10, 11, 12, 13, 14, 15, 16, 17, 18, 19, 20, 21, 22, 23] [] 0 (Same _) (by kernel_rfl) (by kernel_rfl) (fun u u' h k => Keeps.trans h k) (Keeps.refl _ _).drew ?_
      simp only [opsOf, List.filterMap_cons, List.filterMap_nil, List.getElem?_cons_zero, List.getElem?_cons_succ]
      repeat (first
        | (refine seqV_run (v := ?_) rfl (fun u hu => ?_) ?_; rotate_left; (focus (have d7 := cell_of (hu.get HV.out.1 id); have d8 := cell_of (hu.get HV.out.2 id); have l1 := ld_InAt (cell_same (I1.out.1.trans hu) I1.out.2.1) (cell_same (I1.out.1.trans hu) I1.out.2.2.1) (cell_same (I1.out.1.trans hu) I1.out.2.2.2.1) (cell_same (I1.out.1.trans hu) I1.out.2.2.2.2); have l2 := ld_InAt (cell_same (I2.out.1.trans hu) I2.out.2.1) (cell_same (I2.out.1.trans hu) I2.out.2.2.1) (cell_same (I2.out.1.trans hu) I2.out.2.2.2.1) (cell_same (I2.out.1.trans hu) I2.out.2.2.2.2); have dA := cell_same hu A1.out; have dB := cell_same hu A2.out; clear hu; go_simp; first | done | with_reducible rfl)); (try simp only [Act.put, List.setIfInBounds_toArray, List.set_cons_zero, List.set_cons_succ]))
        | (refine seqV_no rfl ?_; (try simp only [Act.put, List.setIfInBounds_toArray, List.set_cons_zero, List.set_cons_succ])))
      refine seqV_nil ?_
      refine tailR_zero fun u5 hu _ => ?_
      have HU5 := hidE hu
      clear hu
      go_wp2
      go_roundw
      case rel => exact ⟨j + 1, by omega, by go_num, HS.out.trans HU5.out⟩
      case measure => simp only [intOf]; omega
    · have p0 : decide ((j : Int) < (b.ins.length : Int)) = false := decide_eq_false (by omega)
      go_wp2_with fail
      clear r1
      by_cases hE : b.ins.length = d.ins.length
      · have e1 : ((b.ins.length : Int) == (d.ins.length : Int)) = true := beq_iff_eq.2 (by omega)
        have e2 : (b.ins.length == d.ins.length) = true := beq_iff_eq.2 hE
        refine wp_region_ra [0, 1, 2, 3, 4, 5, 6, 7, 8, 9, 10, 11, 12, 13, 14, 15, 16, 17, 18, 19, 20, 21, 22, 23, 24, 25, 26, 27, 28, 29, 30, 31, 32] [] 0 (Same _) (by kernel_rfl) (by kernel_rfl) (fun u u' h k => Keeps.trans h k) (Keeps.refl _ _).drew ?_
        simp only [opsOf, List.filterMap_cons, List.filterMap_nil, List.getElem?_cons_zero, List.getElem?_cons_succ]
        repeat (first
          | (refine seqV_run (v := ?_) rfl (fun u hu => ?_) ?_; rotate_left; (focus (have d7 := cell_of (hu.get HV.out.1 id); have d8 := cell_of (hu.get HV.out.2 id); clear hu; go_simp; first | done | with_reducible rfl)); (try simp only [Act.put, List.setIfInBounds_toArray, List.set_cons_zero, List.set_cons_succ]))
          | (refine seqV_no rfl ?_; (try simp only [Act.put, List.setIfInBounds_toArray, List.set_cons_zero, List.set_cons_succ])))
        refine seqV_call (f := 9) (args := #[]) (v := .bool true) rfl (fun u hu => ?_) (fun u _ => works_any u) ?_
        · clear hu
          go_simp
        simp only [Act.put, List.setIfInBounds_toArray, List.set_cons_zero, List.set_cons_succ]
        repeat (first
          | (refine seqV_run (v := ?_) rfl (fun u hu => ?_) ?_; rotate_left; (focus (clear hu; go_simp; first | done | with_reducible rfl)); (try simp only [Act.put, List.setIfInBounds_toArray, List.set_cons_zero, List.set_cons_succ]))
          | (refine seqV_no rfl ?_; (try simp only [Act.put, List.setIfInBounds_toArray, List.set_cons_zero, List.set_cons_succ])))
        refine seqV_nil ?_
        refine tailR_zero fun u5 hu _ => ?_
        have HU5 := hidE hu
        clear hu
        go_wp2
        go_ret
        exact ⟨rfl, HK3.out.trans (HS.out.trans HU5.out)⟩
      · have e1 : ((b.ins.length : Int) == (d.ins.length : Int)) = false := beq_eq_false_iff_ne.2 (by omega)
        have e2 : (b.ins.length == d.ins.length) = false := beq_eq_false_iff_ne.2 hE
        obtain ⟨gx, g2, g3⟩ := HL7.out.resolve_left hE
        have g1 : b.ins.length = X := by rw [gx]; simp
        clear gx
        rw [g1] at g3
        obtain ⟨g4, g5⟩ := List.getElem?_eq_some_iff.1 g3
        have e4 : ((b.ins.length : Int) == (X : Int)) = true := beq_iff_eq.2 (by omega)
        have e5 : (b.ins.length == X) = true := beq_iff_eq.2 g1
        have e6 : (b.en == 1) = true := beq_iff_eq.2 g2
        obtain ⟨gb, _, hwa, -, -, -, -, ha2⟩ := rowU_get HD.out.ra (j := X) g4
        obtain rfl : qa = some ⟨gb, 0, none⟩ := by cases hwa; rfl
        have a1 := ha2 X g4
        rw [g5] at a1
        have A1 := hidE (cell_same (HKD.out.trans HS.out) a1)
        have z1 : X < d.ins.length := by omega
        have z2 : (X : Int) < (d.ins.length : Int) := by omega
        clear g1 g2 g3 g4 g5 hwa ha2 a1
        refine wp_region_ra [0, 1, 2, 3, 4, 5, 6, 7, 8, 9, 10, 11, 12, 13, 14, 15, 16, 17, 18, 19, 20, 21, 22, 23, 24, 25, 26, 27, 28, 29, 30, 31, 32] [] 0 (Same _) (by kernel_rfl) (by kernel_rfl) (fun u u' h k => Keeps.trans h k) (Keeps.refl _ _).drew ?_
        simp only [opsOf, List.filterMap_cons, List.filterMap_nil, List.getElem?_cons_zero, List.getElem?_cons_succ]
        repeat (first
          | (refine seqV_run (v := ?_) rfl (fun u hu => ?_) ?_; rotate_left; (focus (have d7 := cell_of (hu.get HV.out.1 id); have d8 := cell_of (hu.get HV.out.2 id); have dA := cell_same hu A1.out; clear hu; go_simp; first | done | with_reducible rfl)); (try simp only [Act.put, List.setIfInBounds_toArray, List.set_cons_zero, List.set_cons_succ]))
          | (refine seqV_no rfl ?_; (try simp only [Act.put, List.setIfInBounds_toArray, List.set_cons_zero, List.set_cons_succ])))
        refine seqV_call (f := 9) (args := #[]) (v := .bool true) rfl (fun u hu => ?_) (fun u _ => works_any u) ?_
        · clear hu
          go_simp
        simp only [Act.put, List.setIfInBounds_toArray, List.set_cons_zero, List.set_cons_succ]
        repeat (first
          | (refine seqV_run (v := ?_) rfl (fun u hu => ?_) ?_; rotate_left; (focus (clear hu; go_simp; first | done | with_reducible rfl)); (try simp only [Act.put, List.setIfInBounds_toArray, List.set_cons_zero, List.set_cons_succ]))
          | (refine seqV_no rfl ?_; (try simp only [Act.put, List.setIfInBounds_toArray, List.set_cons_zero, List.set_cons_succ])))
        refine seqV_nil ?_
        refine tailR_zero fun u5 hu _ => ?_
        have HU5 := hidE hu
        clear hu
        go_wp2
        go_ret
        exact ⟨rfl, HK3.out.trans (HS.out.trans HU5.out)⟩
end Go.Proofs.Ytjkjnomhggmplaa
