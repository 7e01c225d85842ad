/- Rows and blocks that are equal are the same: ints and Same. The walk of ScanTells: in any memory, at any place, the block is found that the document says, or its fault. -/
import Derived.Test.YtjkjnomhggmplaaGreatCmp
import Derived.Test.YtjkjnomhggmplaaGreatDocT
namespace Go.Proofs.YtjkjnomhggmplaaGreat
open Go.RowKit
attribute [local go_sem ↓] Go.wp_at_zero Go.wp_at_succ
attribute [local go_sem ↓] x_neIn x_ldIn

theorem owns_kS {w w' : World} {B : Nat} {e : TypeId} {s n : Nat} {v : Value} {xs : List Value} (h : w.ownsRow B e s v n xs) (k : Same w w') : w'.ownsRow B e s v n xs := owns_keeps h k (fun _ _ => id)
def eqOp (t : TypeId) (x y : Operand) (a b : Value) : Sem Next := do pure (.value (← (do eqGuard .eql t x y a b; binOp .eql t a b)))
theorem x_eqFl (ρ : Operand → Value) (dst : Option Tmp) (x y : Operand) (r ty : TypeId) (pos : String) (after : Array Edge) (guard : Option (Nat × Bool)) :
    execOp ρ { dst, op := .binOp .eql 42 x y r, type := ty, pos, after, guard } = eqOp 42 x y (ρ x) (ρ y) := rfl
theorem eq_Fl (a b : Int) (x y : Operand) (w : World) : (eqOp 42 x y (.agg #[.int .i64 a, .int .u32 b]) (.agg #[.int .i64 a, .int .u32 b])).run Tryz.prog w = .ok (.value (.bool true)) w := by
  have h : (binOp .eql 42 (.agg #[.int .i64 a, .int .u32 b]) (.agg #[.int .i64 a, .int .u32 b])).run Tryz.prog w = .ok (.bool true) w := by
    rw [run_eql_struct, run_equalIn_struct w 9999 42 _ _ (by kernel_rfl) (by kernel_rfl)]
    go_simp
  unfold eqOp
  simp only [Sem.run_bind, run_eqGuard_agg w .eql 42 x y _ _ eqgFl, h, Result.andThen_ok, Sem.run_pure]
theorem goL_la {R : RamAt} {M : List Int} {root ps : Nat} : ∀ (n : Nat) (b : Bl) (pg : List Int), b.at_.length = b.ins.length → (goL R M root ps n b pg).b.at_.length = (goL R M root ps n b pg).b.ins.length
  | 0, _, _, h => h
  | n + 1, b, pg, h => by
    unfold goL
    simp only
    have hl : ∀ (i : In) (sz : Int) (f : Fd), (layL b i sz f).at_.length = (layL b i sz f).ins.length := fun i sz f => by simp [layL, h]
    split
    · rfl
    · split
      · exact h
      · split
        · have e : ∀ (c : Bl) (i : In), (endB c i).ins = c.ins ∧ (endB c i).at_ = c.at_ := fun c i => by
            unfold endB
            split
            · exact ⟨rfl, rfl⟩
            · split <;> exact ⟨rfl, rfl⟩
          simp only
          rw [(e _ _).1, (e _ _).2]
          exact hl _ _ _
        · exact goL_la n _ _ (hl _ _ _)
theorem scanL_la (R : RamAt) (M : List Int) (root ps pc : Nat) (most : Int) : (scanL R M root ps pc most).b.at_.length = (scanL R M root ps pc most).b.ins.length := goL_la _ _ _ rfl
set_option maxRecDepth 100000 in
set_option maxHeartbeats 4000000 in
theorem ints_eq (w : World) (B C : Nat) (v v' : Value) (xs : List Int) (h : rowI w B v xs) (h' : rowI w C v' xs) : Calls Tryz.prog 28 #[v, v'] w fun e w' => e = .returned (.bool true) ∧ Same w w' := by
  have HH := hidE h
  have HG := hidE h'
  obtain ⟨p, c, rfl⟩ := owns_sl h
  obtain ⟨q, d, rfl⟩ := owns_sl h'
  clear h h'
  go_enter Tryz.func28, Tryz.ntmps28
  go_wp2_with fail
  go_loopw [5] (fun t5 wr => ∃ j : Nat, j ≤ xs.length ∧ t5 = .int .i64 j ∧ Same w wr) (fun t5 _ => xs.length - (intOf t5).toNat)
  case atStart => exact ⟨0, by omega, rfl, Keeps.refl _ _⟩
  case round =>
    obtain ⟨j, hj, rfl, hS⟩ := hrel
    have HS := hidE hS
    clear hS
    by_cases hlt : j < xs.length
    · have p0 : decide ((j : Int) < (xs.length : Int)) = true := decide_eq_true (by omega)
      obtain ⟨gi, _, hv, hc1, hc2, -, -, hi1⟩ := rowI_get HH.out hlt
      obtain rfl : p = some ⟨gi, 0, none⟩ := by cases hv; rfl
      obtain ⟨gj, _, hw, -, -, -, -, hi2⟩ := rowI_get HG.out hlt
      obtain rfl : q = some ⟨gj, 0, none⟩ := by cases hw; rfl
      have hmx : maxLen ≤ 9223372036854775807 := by decide
      have e3 := wrapI ((j : Int) + 1) (by omega) (by omega)
      have A1 := hidE (cell_same HS.out (hi1 j hlt))
      have A2 := hidE (cell_same HS.out (hi2 j hlt))
      clear hv hw hi1 hi2 hmx hc1 hc2
      generalize xs[j] = y at *
      go_wp2_with fail
      refine wp_region_ra [0, 1, 2, 3, 4, 5, 6, 7, 8] [] 0 (Same _) (by kernel_rfl) (by kernel_rfl) (fun u u' h k => Keeps.trans h k) (Keeps.refl _ _).drew ?_
      simp only [opsOf, List.filterMap_cons, List.filterMap_nil, List.getElem?_cons_zero, List.getElem?_cons_succ]
      repeat (refine seqV_run (v := ?_) rfl (fun u hu => ?_) ?_; rotate_left; (focus (have dA := cell_same hu A1.out; have dB := cell_same hu A2.out; clear hu; go_simp; first | done | with_reducible rfl)); (try simp only [Act.put, List.setIfInBounds_toArray, List.set_cons_zero, List.set_cons_succ]))
      refine seqV_nil ?_
      refine tailR_zero fun u5 hu _ => ?_
      have HU5 := hidE hu
      clear hu
      go_wp2
      go_roundw
      case rel => exact ⟨j + 1, by omega, by go_num, HS.out.trans HU5.out⟩
      case measure => simp only [intOf]; omega
    · have p0 : decide ((j : Int) < (xs.length : Int)) = false := decide_eq_false (by omega)
      go_wp2_with fail
      go_ret
      exact ⟨rfl, HS.out⟩
set_option maxRecDepth 100000 in
set_option maxHeartbeats 8000000 in
theorem same_eq (w : World) (B C : Nat) (vi va vf vt ui ua uf ut : Value) (nx to : Nat) (en : Int) (ins : List In) (at_ fr tb : List Int) (hla : at_.length = ins.length)
    (a1 : rowN w B vi ins) (a2 : rowU w B va at_) (a3 : rowI w B vf fr) (a4 : rowI w B vt tb) (b1 : rowN w C ui ins) (b2 : rowU w C ua at_) (b3 : rowI w C uf fr) (b4 : rowI w C ut tb) :
    Calls Tryz.prog 8 #[.agg #[vi, va, .int .u32 (nx : Nat), .int .u32 (to : Nat), .int .i64 en, vf, vt], .agg #[ui, ua, .int .u32 (nx : Nat), .int .u32 (to : Nat), .int .i64 en, uf, ut]] w fun e w' => e = .returned (.bool true) ∧ Same w w' := by
  have HA := hidE (And.intro a1 (And.intro a2 (And.intro a3 a4)))
  have HB := hidE (And.intro b1 (And.intro b2 (And.intro b3 b4)))
  obtain ⟨pi, ci, rfl⟩ := owns_sl a1
  obtain ⟨pa, ca, rfl⟩ := owns_sl a2
  obtain ⟨pf, cf, rfl⟩ := owns_sl a3
  obtain ⟨pt, ct, rfl⟩ := owns_sl a4
  obtain ⟨qi, di, rfl⟩ := owns_sl b1
  obtain ⟨qa, da, rfl⟩ := owns_sl b2
  obtain ⟨qf, df, rfl⟩ := owns_sl b3
  obtain ⟨qt, dt, rfl⟩ := owns_sl b4
  clear a1 a2 a3 a4 b1 b2 b3 b4
  rw [hla] at HA HB ⊢
  have HLa := hidE hla
  clear hla
  have k0 : Same w ((w.alloc (.cells #[.slice pi ins.length ci, .slice pa ins.length ca, .int .u32 (nx : Nat), .int .u32 (to : Nat), .int .i64 en, .slice pf fr.length cf, .slice pt tb.length ct] 40)).alloc (.cells #[.slice qi ins.length di, .slice qa ins.length da, .int .u32 (nx : Nat), .int .u32 (to : Nat), .int .i64 en, .slice qf fr.length df, .slice qt tb.length dt] 40)) := ((Keeps.refl _ _).alloc _).alloc _
  have HK0 := hidE k0
  have hA := block_old (.cells #[.slice qi ins.length di, .slice qa ins.length da, .int .u32 (nx : Nat), .int .u32 (to : Nat), .int .i64 en, .slice qf fr.length df, .slice qt tb.length dt] 40) (block_new w (.cells #[.slice pi ins.length ci, .slice pa ins.length ca, .int .u32 (nx : Nat), .int .u32 (to : Nat), .int .i64 en, .slice pf fr.length cf, .slice pt tb.length ct] 40))
  have hB := block_atR (.cells #[.slice qi ins.length di, .slice qa ins.length da, .int .u32 (nx : Nat), .int .u32 (to : Nat), .int .i64 en, .slice qf fr.length df, .slice qt tb.length dt] 40) (by simp : (w.alloc (.cells #[.slice pi ins.length ci, .slice pa ins.length ca, .int .u32 (nx : Nat), .int .u32 (to : Nat), .int .i64 en, .slice pf fr.length cf, .slice pt tb.length ct] 40)).heap.size = w.heap.size + 1)
  have HAB := hidE (And.intro hA hB)
  have c1 := cell_of hA
  have c2 := cell_of hB
  clear k0 hA hB
  go_enter Tryz.func8, Tryz.ntmps8
  go_wp2_with fail
  refine (ints_eq _ _ _ _ _ fr (owns_kS HA.out.2.2.1 HK0.out) (owns_kS HB.out.2.2.1 HK0.out)).mono ?_
  rintro _ w1 ⟨rfl, hk1⟩
  have HK1 := hidE (HK0.out.trans hk1)
  have HW1 := hidE (And.intro (hk1.get HAB.out.1 id) (hk1.get HAB.out.2 id))
  have c3 := cell_of HW1.out.1
  have c4 := cell_of HW1.out.2
  clear c1 c2 hk1
  go_wp2_with fail
  refine (ints_eq _ _ _ _ _ tb (owns_kS HA.out.2.2.2 HK1.out) (owns_kS HB.out.2.2.2 HK1.out)).mono ?_
  rintro _ w2 ⟨rfl, hk2⟩
  have HK2 := hidE (HK1.out.trans hk2)
  have HW2 := hidE (And.intro (hk2.get HW1.out.1 id) (hk2.get HW1.out.2 id))
  clear c3 c4 hk2
  go_wp2_with fail
  go_loopw [5] (fun t5 wr => ∃ j : Nat, j ≤ ins.length ∧ t5 = .int .i64 j ∧ Same w2 wr) (fun t5 _ => ins.length - (intOf t5).toNat)
  case atStart => exact ⟨0, by omega, rfl, Keeps.refl _ _⟩
  case round =>
    obtain ⟨j, hj, rfl, hS⟩ := hrel
    have HS := hidE hS
    have HV := hidE (And.intro (hS.get HW2.out.1 id) (hS.get HW2.out.2 id))
    have r1 := cell_of HV.out.1
    clear hS
    by_cases hlt : j < ins.length
    · have p0 : decide ((j : Int) < (ins.length : Int)) = true := decide_eq_true (by omega)
      obtain ⟨gi, _, hv, hc1, hc2, -, hi1⟩ := rowN_get HA.out.1 (by omega)
      obtain rfl : pi = some ⟨gi, 0, none⟩ := by cases hv; rfl
      obtain ⟨gj, _, hw, -, -, -, hi2⟩ := rowN_get HB.out.1 (by omega)
      obtain rfl : qi = some ⟨gj, 0, none⟩ := by cases hw; rfl
      have hlt2 : j < at_.length := by rw [HLa.out]; exact hlt
      obtain ⟨ga, _, hva, -, -, -, -, ha1⟩ := rowU_get HA.out.2.1 hlt2
      obtain rfl : pa = some ⟨ga, 0, none⟩ := by injection hva
      obtain ⟨gb, _, hwa, -, -, -, -, ha2⟩ := rowU_get HB.out.2.1 hlt2
      obtain rfl : qa = some ⟨gb, 0, none⟩ := by injection hwa
      have hmx : maxLen ≤ 9223372036854775807 := by decide
      have e3 := wrapI ((j : Int) + 1) (by omega) (by omega)
      have i1 := hi1 j hlt
      have i2 := hi2 j hlt
      have a1 := ha1 j hlt2
      have a2 := ha2 j hlt2
      generalize ins[j] = y at i1 i2
      generalize at_[j] = z at a1 a2
      obtain ⟨yo, ya, yb, yi⟩ := y
      simp only at i1 i2
      have I1 := hidE (And.intro (HK2.out.trans HS.out) i1)
      have I2 := hidE (And.intro (HK2.out.trans HS.out) i2)
      have A1 := hidE (cell_same (HK2.out.trans HS.out) a1)
      have A2 := hidE (cell_same (HK2.out.trans HS.out) a2)
      have ne := ne_In yo ya yb yi
      clear hv hw hva hwa hi1 hi2 ha1 ha2 i1 i2 a1 a2 hmx hc1 hc2 hlt2
      go_wp2_with fail
      clear r1
      refine wp_region_ra [0, 1, 2, 3, 4, 5, 6, 7, 8, 9, 10, 11, 12, 13, 14, 15, 16, 17, 18, 19, 20, 21, 22, 23] [] 0 (Same _) (by kernel_rfl) (by kernel_rfl) (fun u u' h k => Keeps.trans h k) (Keeps.refl _ _).drew ?_
      simp only [opsOf, List.filterMap_cons, List.filterMap_nil, List.getElem?_cons_zero, List.getElem?_cons_succ]
      repeat (first
        | (refine seqV_run (v := ?_) rfl (fun u hu => ?_) ?_; rotate_left; (focus (have d7 := cell_of (hu.get HV.out.1 id); have d8 := cell_of (hu.get HV.out.2 id); have l1 := ld_InAt (cell_same (I1.out.1.trans hu) I1.out.2.1) (cell_same (I1.out.1.trans hu) I1.out.2.2.1) (cell_same (I1.out.1.trans hu) I1.out.2.2.2.1) (cell_same (I1.out.1.trans hu) I1.out.2.2.2.2); have l2 := ld_InAt (cell_same (I2.out.1.trans hu) I2.out.2.1) (cell_same (I2.out.1.trans hu) I2.out.2.2.1) (cell_same (I2.out.1.trans hu) I2.out.2.2.2.1) (cell_same (I2.out.1.trans hu) I2.out.2.2.2.2); have dA := cell_same hu A1.out; have dB := cell_same hu A2.out; clear hu; go_simp; first | done | with_reducible rfl)); (try simp only [Act.put, List.setIfInBounds_toArray, List.set_cons_zero, List.set_cons_succ]))
        | (refine seqV_no rfl ?_; (try simp only [Act.put, List.setIfInBounds_toArray, List.set_cons_zero, List.set_cons_succ])))
      refine seqV_nil ?_
      refine tailR_zero fun u5 hu _ => ?_
      have HU5 := hidE hu
      clear hu
      go_wp2
      go_roundw
      case rel => exact ⟨j + 1, by omega, by go_num, HS.out.trans HU5.out⟩
      case measure => simp only [intOf]; omega
    · have p0 : decide ((j : Int) < (ins.length : Int)) = false := decide_eq_false (by omega)
      go_wp2_with fail
      go_ret
      exact ⟨rfl, HK2.out.trans HS.out⟩
end Go.Proofs.YtjkjnomhggmplaaGreat
namespace Go.Proofs.YtjkjnomhggmplaaGreat
open Go.RowKit
attribute [local go_sem ↓] Go.wp_at_zero Go.wp_at_succ
attribute [local go_sem ↓] x_ldG x_ldSt x_eqFl x_ldFl x_ldB

set_option maxRecDepth 100000 in
set_option maxHeartbeats 4000000 in
theorem scanTells_walk (w : World) (s0 : Array Value) (h0 : RdV Tryz.prog w 31 s0.toList) (x1 : Int) (h1 : RdV Tryz.prog w 3 [.int .i64 x1]) :
    Calls Tryz.prog 3 #[.agg s0, .int .i64 x1] w fun e w' => e = .returned (.bool true) ∧ Below w.heap.size w w' := by
  obtain ⟨fr, ia, il, ic, X, ca, cl, cc, Y, en, root, ps, pc, hG⟩ := guest_open h0
  obtain ⟨x, e, m0, m1⟩ := h1.int (k := .i64) Tryz.underlying3
  simp only [List.cons.injEq, Value.int.injEq, true_and, and_true] at e
  subst e
  simp [IntKind.min, IntKind.max, IntKind.bits, IntKind.signed] at m0 m1
  refine Calls.mono (R := fun e w' => e = .returned (.bool true) ∧ Same w w') ?_ (fun e w' h => ⟨h.1, same_below h.2⟩)
  have hsz := hG.size
  have HG := hidE hG
  clear h0 h1 hG
  go_enter Tryz.func3, Tryz.ntmps3
  have hld := ld_G (w := w.alloc (.cells s0 31)) (block_new _ _) hsz
  go_wp2_with fail
  refine (made_new (HG.out.same ((Keeps.refl _ _).alloc _))).mono ?_
  rintro _ w1 ⟨R, M, g, rfl, hR, hk1, -, -, hMl, hRF, hMb⟩
  have B1 := hidE (hk1.get (block_new w (.cells s0 31)) id)
  have HK1 := hidE (((Keeps.refl (fun _ => False) w).alloc (.cells s0 31)).trans hk1)
  have HR := hidE hR
  have HD := hidE (show DocR w1 R M g from ⟨hMb, hMl, hRF, hR.bytes, hR.n1, hR.n2⟩)
  clear hk1 hR hld hMl hRF hMb
  have k2 := (Keeps.refl (fun _ => False) w1).alloc (.cells #[.slice (some ⟨g, 0, none⟩) (64 * R.n) (64 * R.n)] 34)
  have B2 := hidE (block_old (.cells #[.slice (some ⟨g, 0, none⟩) (64 * R.n) (64 * R.n)] 34) B1.out)
  have M2 := hidE (block_new w1 (.cells #[.slice (some ⟨g, 0, none⟩) (64 * R.n) (64 * R.n)] 34))
  have HR2 := hidE (HR.out.same k2)
  have HD2 := hidE (HD.out.same k2)
  have hld := ld_StateAt B2.out hsz
  have HSc := hidE (scan_any _ HR2.out _ root ps pc HG.out.st x1 m0 (by omega))
  have HLa := hidE (scanL_la R M root ps pc x1)
  have HDs := hidE (fun w' (k : Same (w1.alloc (.cells #[.slice (some ⟨g, 0, none⟩) (64 * R.n) (64 * R.n)] 34)) w') => d_scan w' (HD2.out.same k) (HR2.out.same k) _ root ps pc HG.out.st x1 m0 (by omega))
  rw [scanD_scanL HR.out] at HDs
  clear k2
  generalize scanL R M root ps pc x1 = Z at *
  go_wp2_with fail
  refine HSc.out.mono ?_
  rintro _ w2 ⟨vi, va, vf, vt, rfl, hB, hk2⟩
  obtain ⟨zc, za, b⟩ := Z
  simp only at hB HLa HDs
  have HB := hidE hB
  have HK2 := hidE ((HK1.out.alloc (.cells #[.slice (some ⟨g, 0, none⟩) (64 * R.n) (64 * R.n)] 34)).trans hk2)
  have B3 := hidE (hk2.get B2.out id)
  have M3 := hidE (hk2.get M2.out id)
  have HKa := hidE hk2
  clear hk2 hld HSc
  simp only [blA, flV]
  obtain ⟨pi, ci, rfl⟩ := owns_sl hB.ri
  obtain ⟨pa, ca, rfl⟩ := owns_sl hB.ra
  obtain ⟨pf, cf, rfl⟩ := owns_sl hB.rf
  obtain ⟨pt, ct, rfl⟩ := owns_sl hB.rt
  clear hB
  have kA : Same w2 ((w2.alloc (.cells #[.slice pi b.ins.length ci, .slice pa b.at_.length ca, .int .u32 (b.next : Nat), .int .u32 (b.to : Nat), .int .i64 b.en, .slice pf b.fr.length cf, .slice pt b.tb.length ct] 40)).alloc (.cells #[.int .i64 zc, .int .u32 (za : Nat)] 42)) := ((Keeps.refl _ _).alloc _).alloc _
  have hld := ld_StateAt (kA.get B3.out id) hsz
  have cM := cell_of (kA.get M3.out id)
  have HA := hidE (And.intro (block_old (.cells #[.int .i64 zc, .int .u32 (za : Nat)] 42) (block_new w2 (.cells #[.slice pi b.ins.length ci, .slice pa b.at_.length ca, .int .u32 (b.next : Nat), .int .u32 (b.to : Nat), .int .i64 b.en, .slice pf b.fr.length cf, .slice pt b.tb.length ct] 40))) (block_atR (.cells #[.int .i64 zc, .int .u32 (za : Nat)] 42) (by simp : (w2.alloc (.cells #[.slice pi b.ins.length ci, .slice pa b.at_.length ca, .int .u32 (b.next : Nat), .int .u32 (b.to : Nat), .int .i64 b.en, .slice pf b.fr.length cf, .slice pt b.tb.length ct] 40)).heap.size = w2.heap.size + 1)))
  have HKA := hidE kA
  clear kA
  go_wp2_with fail
  refine (HDs.out _ (HKa.out.trans HKA.out)).mono ?_
  rintro _ w3 ⟨ui, ua, uf, ut, rfl, c1, c2, c3, c4, hk3⟩
  simp only at c1 c2 c3 c4
  have HC := hidE (And.intro c1 (And.intro c2 (And.intro c3 c4)))
  obtain ⟨qi, di, rfl⟩ := owns_sl c1
  obtain ⟨qa, da, rfl⟩ := owns_sl c2
  obtain ⟨qf, df, rfl⟩ := owns_sl c3
  obtain ⟨qt, dt, rfl⟩ := owns_sl c4
  clear c1 c2 c3 c4 hld cM
  have kD : Same w3 ((w3.alloc (.cells #[.slice qi b.ins.length di, .slice qa b.at_.length da, .int .u32 (b.next : Nat), .int .u32 (b.to : Nat), .int .i64 b.en, .slice qf b.fr.length df, .slice qt b.tb.length dt] 40)).alloc (.cells #[.int .i64 zc, .int .u32 (za : Nat)] 42)) := ((Keeps.refl _ _).alloc _).alloc _
  have d1 := kD.get (hk3.get HA.out.1 id) id
  have d2 := kD.get (hk3.get HA.out.2 id) id
  have d3 := block_old (.cells #[.int .i64 zc, .int .u32 (za : Nat)] 42) (block_new w3 (.cells #[.slice qi b.ins.length di, .slice qa b.at_.length da, .int .u32 (b.next : Nat), .int .u32 (b.to : Nat), .int .i64 b.en, .slice qf b.fr.length df, .slice qt b.tb.length dt] 40))
  have d4 := block_atR (.cells #[.int .i64 zc, .int .u32 (za : Nat)] 42) (by simp : (w3.alloc (.cells #[.slice qi b.ins.length di, .slice qa b.at_.length da, .int .u32 (b.next : Nat), .int .u32 (b.to : Nat), .int .i64 b.en, .slice qf b.fr.length df, .slice qt b.tb.length dt] 40)).heap.size = w3.heap.size + 1)
  have l1 := ld_Bv d1 rfl
  have l2 := ld_Bv d3 rfl
  have f1 := ld_Fl d2
  have f2 := ld_Fl d4
  have HK3 := hidE (HK2.out.trans (HKA.out.trans (hk3.trans kD)))
  have HKB := hidE (HKA.out.trans (hk3.trans kD))
  have HKD := hidE kD
  have q := eq_Fl zc (za : Nat)
  clear kD hk3 d1 d2 d3 d4
  go_wp2_with fail
  refine (same_eq _ _ _ _ _ _ _ _ _ _ _ b.next b.to b.en b.ins b.at_ b.fr b.tb HLa.out (owns_kS HB.out.ri HKB.out) (owns_kS HB.out.ra HKB.out) (owns_kS HB.out.rf HKB.out) (owns_kS HB.out.rt HKB.out)
    (owns_kS HC.out.1 HKD.out) (owns_kS HC.out.2.1 HKD.out) (owns_kS HC.out.2.2.1 HKD.out) (owns_kS HC.out.2.2.2 HKD.out)).mono ?_
  rintro _ w4 ⟨rfl, hk4⟩
  have HK4 := hidE (HK3.out.trans hk4)
  clear hk4
  go_wp2_with fail
  refine (works_any _).mono ?_
  rintro _ w5 ⟨rfl, hk5⟩
  have HK5 := hidE (HK4.out.trans hk5)
  clear hk5
  go_wp2
  go_ret
  exact ⟨rfl, HK5.out⟩
end Go.Proofs.YtjkjnomhggmplaaGreat
