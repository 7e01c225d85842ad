/- The walk of ScanEnds: a block has one instruction at least, and at most as many as may be; only the last one ends a block; its places follow one another. -/
import Derived.Test.YtjkjnomhggmplaaMade
import Derived.Test.YtjkjnomhggmplaaEnds
namespace Go.Proofs.Ytjkjnomhggmplaa
open Go.RowKit
attribute [local go_sem ↓] Go.wp_at_zero Go.wp_at_succ
attribute [local go_sem ↓] x_ldG x_ldSt

def EdS (w4 : World) (tb : Nat) (u : World) : Prop := Keeps (fun k => k = tb) w4 u ∧ TabOk u tb
def EdT (tb : Nat) (u u' : World) : Prop := Keeps (fun k => k = tb) u u' ∧ (TabOk u tb → TabOk u' tb)
theorem EdT.refl (tb : Nat) (u : World) : EdT tb u u := ⟨Keeps.refl _ _, id⟩
theorem EdS.next {w4 : World} {tb : Nat} (u u' : World) (h : EdS w4 tb u) (k : EdT tb u u') : EdS w4 tb u' := ⟨h.1.trans k.1, k.2 h.2⟩
set_option maxRecDepth 100000 in
set_option maxHeartbeats 4000000 in
theorem scanEnds_walk (w : World) (s0 : Array Value) (h0 : RdV Try.prog w 31 s0.toList) (x1 : Int) (h1 : RdV Try.prog w 3 [.int .i64 x1]) :
    Calls Try.prog 3 #[.agg s0, .int .i64 x1] w fun e w' => e = .returned (.bool true) ∧ Below w.heap.size w w' := by
  obtain ⟨fr, ia, il, ic, X, ca, cl, cc, Y, en, root, ps, pc, hG⟩ := guest_open h0
  obtain ⟨x, e, m0, m1⟩ := h1.int (k := .i64) Try.underlying3
  simp only [List.cons.injEq, Value.int.injEq, true_and, and_true] at e
  subst e
  simp [IntKind.min, IntKind.max, IntKind.bits, IntKind.signed] at m0 m1
  refine Calls.mono (R := fun e w' => e = .returned (.bool true) ∧ Same w w') ?_ (fun e w' h => ⟨h.1, same_below h.2⟩)
  have hsz := hG.size
  have HG := hidE hG
  clear h0 h1 hG
  go_enter Try.func3, Try.ntmps3
  have hld := ld_G (w := w.alloc (.cells s0 31)) (block_new _ _) hsz
  go_wp2_with fail
  refine (made_any (HG.out.same ((Keeps.refl _ _).alloc _))).mono ?_
  rintro _ w1 ⟨R, M, g, rfl, hR, hk1⟩
  have B1 := hidE (hk1.get (block_new w (.cells s0 31)) id)
  have HK1 := hidE (((Keeps.refl (fun _ => False) w).alloc (.cells s0 31)).trans hk1)
  have HR := hidE hR
  clear hk1 hR hld
  have B2 := hidE (block_old (.cells #[.slice (some ⟨g, 0, none⟩) (64 * R.n) (64 * R.n)] 34) B1.out)
  have hld := ld_StateAt B2.out hsz
  have HSc := hidE (scan_any _ (HR.out.same ((Keeps.refl (fun _ => False) w1).alloc (.cells #[.slice (some ⟨g, 0, none⟩) (64 * R.n) (64 * R.n)] 34))) _ root ps pc HG.out.st x1 m0 (by omega))
  have HEn := hidE (scanL_ends HR.out root ps pc x1 HG.out.st.hc)
  generalize scanL R M root ps pc x1 = Z at *
  go_wp2_with fail
  refine HSc.out.mono ?_
  rintro _ w2 ⟨vi, va, vf, vt, rfl, hB, hk2⟩
  obtain ⟨zc, za, b⟩ := Z
  simp only at hB HEn
  have HB := hidE hB
  have HK2 := hidE ((HK1.out.alloc (.cells #[.slice (some ⟨g, 0, none⟩) (64 * R.n) (64 * R.n)] 34)).trans hk2)
  have B3 := hidE (hk2.get B2.out id)
  clear hk2 hld
  simp only [blA, flV]
  obtain ⟨pi, ci, rfl⟩ := owns_sl hB.ri
  obtain ⟨pa, ca, rfl⟩ := owns_sl hB.ra
  obtain ⟨pf, cf, rfl⟩ := owns_sl hB.rf
  obtain ⟨pt, ct, rfl⟩ := owns_sl hB.rt
  clear hB
  by_cases hc : zc = 0
  · subst hc
    have hE := HEn.out.2 rfl
    have hla := hE.la
    rw [hla]
    have HEE := hidE hE
    have hgp : s0[12]? = some (.int .u32 (pc : Nat)) := by
      have := HG.out.st.e8
      rw [Array.getElem?_extract] at this
      simpa [hsz] using this
    obtain ⟨_, g12⟩ := Array.getElem?_eq_some_iff.1 hgp
    obtain ⟨ga, ca', hva, -, -, -, hal0, hca⟩ := rowU_get HB.out.ra (j := 0) (by have := hE.la; have := hE.n1; omega)
    obtain ⟨gi, ci', hvi, -, -, hgl0, hci⟩ := rowN_get HB.out.ri (by have := hE.n1; omega)
    obtain rfl : pa = some ⟨ga, 0, none⟩ := by cases hva; rfl
    obtain rfl : pi = some ⟨gi, 0, none⟩ := by cases hvi; rfl
    have hca0 := hca 0 (by have := hE.la; have := hE.n1; omega)
    have ha0 : b.at_[0]'(by have := hE.la; have := hE.n1; omega) = (pc : Int) := by
      have := hE.h0
      rw [List.getElem?_eq_getElem (by have := hE.la; have := hE.n1; omega)] at this
      simpa using this
    rw [ha0] at hca0
    have k3 : Same w2 ((w2.alloc (.cells #[.slice (some ⟨gi, 0, none⟩) b.ins.length ci, .slice (some ⟨ga, 0, none⟩) b.ins.length ca, .int .u32 (b.next : Nat), .int .u32 (b.to : Nat), .int .i64 b.en, .slice pf b.fr.length cf, .slice pt b.tb.length ct] 40)).alloc (.cells #[.int .i64 0, .int .u32 (za : Nat)] 42)) := ((Keeps.refl _ _).alloc _).alloc _
    have HA0 := hidE (cell_same k3 hca0)
    have HK3w := hidE k3
    have HGl := hidE (And.intro hgl0 hal0)
    have HW := hidE (And.intro (show ((w2.alloc (.cells #[.slice (some ⟨gi, 0, none⟩) b.ins.length ci, .slice (some ⟨ga, 0, none⟩) b.ins.length ca, .int .u32 (b.next : Nat), .int .u32 (b.to : Nat), .int .i64 b.en, .slice pf b.fr.length cf, .slice pt b.tb.length ct] 40)).alloc (.cells #[.int .i64 0, .int .u32 (za : Nat)] 42)).heap[w2.heap.size]? = _ from block_old _ (block_new _ _)) (k3.get B3.out id))
    have HCA := hidE hca
    have HCI := hidE hci
    have n1 := hE.n1
    have n2 := hE.n2
    have hp0 : 0 < b.ins.length := by omega
    have hp1 : ¬ b.ins = [] := fun e => by rw [e] at hp0; simp at hp0
    have q2 : decide (b.ins.length < 1) = false := decide_eq_false (by omega)
    have q3 : decide (32 < b.ins.length) = false := decide_eq_false (by omega)
    have q2' : decide ((b.ins.length : Int) < 1) = false := decide_eq_false (by omega)
    have q3' : decide (32 < (b.ins.length : Int)) = false := decide_eq_false (by omega)
    have q4 : ((b.at_.length : Int) != (b.ins.length : Int)) = false := by simp [hla]
    have HK3 := hidE (HK2.out.trans k3)
    have HBt := hidE HB.out
    clear hE hca hci hca0 ha0 hva hvi k3 hgp
    by_cases hm : (b.ins.length : Int) ≤ x1
    · have q5 : decide (x1 < (b.ins.length : Int)) = false := decide_eq_false (by omega)
      go_wp2_with fail
      refine wp_region_ra [0, 1, 2, 3, 4, 5, 6, 7, 8, 9, 10, 11, 12, 13, 14, 15, 16, 17, 18, 19, 20, 21, 22, 23, 24, 25, 26, 27, 28, 29, 30, 31] [] 0 (Same _) (by kernel_rfl) (by kernel_rfl) (fun u u' h k => Keeps.trans h k) (Keeps.refl _ _).drew ?_
      simp only [opsOf, List.filterMap_cons, List.filterMap_nil, List.getElem?_cons_zero, List.getElem?_cons_succ]
      repeat (first
        | (refine seqV_run (v := ?_) rfl (fun u hu => ?_) ?_; rotate_left; (focus (have d7 := cell_of (hu.get HW.out.1 id); have dG := cell_of (hu.get HW.out.2 id); have dA := cell_same hu HA0.out; clear hu; go_simp; first | done | with_reducible rfl)); (try simp only [Act.put, List.setIfInBounds_toArray, List.set_cons_zero, List.set_cons_succ]))
        | (refine seqV_no rfl ?_; (try simp only [Act.put, List.setIfInBounds_toArray, List.set_cons_zero, List.set_cons_succ])))
      refine seqV_nil ?_
      refine tailR_zero fun u1 hu _ => ?_
      have HU := hidE hu
      clear hu
      go_wp2_with fail
      refine (kind_new _).mono ?_
      rintro _ w4 ⟨rfl, ht4, hk4⟩
      generalize htb : u1.heap.size = tb at *
      have HT := hidE htb
      clear htb
      have HU4 := hidE (HU.out.trans hk4)
      have HTN := hidE ht4
      have hs2 : w2.heap.size + 1 < tb := by have h1 := HU.out.size; have h2 := HT.out; simp at h1; omega
      clear ht4 hk4
      go_wp2_with fail
      go_loopw [11] (fun t11 wr => ∃ j : Nat, j ≤ b.ins.length ∧ t11 = .int .i64 j ∧ EdS w4 tb wr) (fun t11 _ => b.ins.length - (intOf t11).toNat)
      case atStart => exact ⟨0, by omega, rfl, Keeps.refl _ _, .inl HTN.out⟩
      case round =>
        obtain ⟨j, hj, rfl, hS⟩ := hrel
        have HS := hidE hS
        have e3 := wrapI ((j : Int) + 1) (by omega) (by omega)
        have e4 := wrapI ((b.ins.length : Int) - 1) (by omega) (by omega)
        clear hS
        by_cases hlt : j < b.ins.length
        · have p0 : decide ((j : Int) < (b.ins.length : Int)) = true := decide_eq_true (by omega)
          have hob := HEE.out.ob b.ins[j] (by simp)
          have hne := HEE.out.ne j b.ins[j] (by simp [hlt])
          have HOp := hidE (cell_same HU4.out (cell_same HK3w.out (HCI.out j hlt).1))
          have hgl := Nat.lt_of_lt_of_le (Nat.lt_of_lt_of_le HGl.out.1 HK3w.out.size) HU4.out.size
          have hal := Nat.lt_of_lt_of_le (Nat.lt_of_lt_of_le HGl.out.2 HK3w.out.size) HU4.out.size
          have hgt : gi ≠ tb ∧ ga ≠ tb := by have h1 := HGl.out.1; have h2 := HGl.out.2; omega
          generalize b.ins[j] = y at *
          obtain ⟨yo, ya, yb, yi⟩ := y
          simp only at hob hne HOp
          have hEnd := hidE (fun u (h : TabOk u tb) => ends_ok u tb yo hob.1 hob.2 h)
          generalize hkm : (kindM yo).1 = km at hEnd hne
          clear hkm
          have HNE := hidE hne
          clear hne
          rcases (show (j + 1 = b.ins.length ∧ b.en = 1) ∨ (j + 1 = b.ins.length ∧ b.en ≠ 1) ∨ j + 1 ≠ b.ins.length by omega) with ⟨c1, c2⟩ | ⟨c1, c2⟩ | c1
          · have q84 : decide (3 ≤ km) = false := decide_eq_false (fun h => (HNE.out.1 h).2 c2)
            have q88 : ((j : Int) == (b.ins.length : Int) - 1) = true := beq_iff_eq.2 (by omega)
            have q92 : (b.en != 1) = false := by simpa using c2
            have c1' := hidE c1
            clear c1
            rcases j with _ | m
            · have q88 : ((0 : Int) == (b.ins.length : Int) - 1) = true := q88
              have p0 : decide ((0 : Int) < (b.ins.length : Int)) = true := decide_eq_true (by omega)
              clear HNE c1'
              go_wp2_with fail
              refine wp_region_rb (T := EdT tb) [0, 1, 2, 3, 4, 5, 6, 7, 8, 9, 10, 11, 12, 13, 14, 15, 16, 17, 18, 19, 20, 21, 22, 23, 24, 25, 26, 27, 28, 29, 30, 31, 32, 33, 34, 35, 36] [] 0 (EdS w4 tb) (by kernel_rfl) (by kernel_rfl) EdS.next ⟨HS.out.1.drew, HS.out.2.keepC (Keeps.refl (fun _ => False) _).drew id (fun _ _ h => h.elim)⟩ ?_
              simp only [opsOf, List.filterMap_cons, List.filterMap_nil, List.getElem?_cons_zero, List.getElem?_cons_succ]
              iterate 7 (refine seqT_run (EdT.refl _) (v := ?_) rfl (fun u hu => ?_) ?_; rotate_left; (focus (have d7 := cell_of (hu.1.get (HU4.out.get HW.out.1 id) (by omega)); have dO := cell_keeps hu.1 hgl hgt.1 HOp.out; clear hu; go_simp; first | done | with_reducible rfl)); (try simp only [Act.put, List.setIfInBounds_toArray, List.set_cons_zero, List.set_cons_succ]))
              refine seqT_call (f := 11) (args := #[.pointer (some ⟨tb, 0, none⟩), .int .u8 yo]) (v := .bool (decide (3 ≤ km))) rfl (fun u hu => ?_) (fun u hu => (hEnd.out u hu.2).mono fun e w' h => ⟨h.1, h.2.1, fun _ => .inr h.2.2⟩) ?_
              · clear hu
                go_simp
              simp only [Act.put, List.setIfInBounds_toArray, List.set_cons_zero, List.set_cons_succ, q84]
              repeat (first
                | (refine seqT_run (EdT.refl _) (v := ?_) rfl (fun u hu => ?_) ?_; rotate_left; (focus (have d7 := cell_of (hu.1.get (HU4.out.get HW.out.1 id) (by omega)); have dO := cell_keeps hu.1 hgl hgt.1 HOp.out; clear hu; go_simp; first | done | with_reducible rfl)); (try simp only [Act.put, List.setIfInBounds_toArray, List.set_cons_zero, List.set_cons_succ]))
                | (refine seqT_no (EdT.refl _) rfl ?_; (try simp only [Act.put, List.setIfInBounds_toArray, List.set_cons_zero, List.set_cons_succ])))
              refine seqT_nil ?_
              refine tailT_zero fun u5 hu _ => ?_
              have HU5 := hidE hu
              clear hu
              go_wp2
              go_roundw
              case rel => exact ⟨0 + 1, by omega, by go_num, HU5.out⟩
              case measure => simp only [intOf]; omega
            · have q88 : ((m : Int) + 1 == (b.ins.length : Int) - 1) = true := by rw [← q88]; rfl
              have p0 : decide ((m : Int) + 1 < (b.ins.length : Int)) = true := decide_eq_true (by omega)
              have z1 : (0 : Int) ≤ (m : Int) + 1 := by omega
              have z2 : (m : Int) + 1 < (b.ins.length : Int) := by omega
              have z3 : (m : Int) < (b.ins.length : Int) := by omega
              have e3 := wrapI ((m : Int) + 1 + 1) (by omega) (by omega)
              have m1 : m < b.at_.length := by have := HEE.out.la; omega
              have m2 : m + 1 < b.at_.length := by have := HEE.out.la; omega
              have hdf := HEE.out.df m b.at_[m] b.at_[m + 1] (by simp [m1]) (by simp [m2])
              have HX := hidE (cell_same HU4.out (cell_same HK3w.out (HCA.out m m1)))
              have HY := hidE (cell_same HU4.out (cell_same HK3w.out (HCA.out (m + 1) m2)))
              generalize b.at_[m] = zx at hdf HX
              generalize b.at_[m + 1] = zy at hdf HY
              have q97 : decide ((0 : Int) < (m : Int) + 1) = true := decide_eq_true (by omega)
              have q98 : IntKind.u32.wrap (zy - zx) = (zy - zx) % 4294967296 := by simp [IntKind.wrap, IntKind.bits, IntKind.signed]
              have q99 : decide (6 < (zy - zx) % 4294967296) = false := decide_eq_false (by omega)
              have e6 := wrapI (m : Int) (by omega) (by omega)
              clear HNE c1'
              go_wp2_with fail
              refine wp_region_rb (T := EdT tb) [0, 1, 2, 3, 4, 5, 6, 7, 8, 9, 10, 11, 12, 13, 14, 15, 16, 17, 18, 19, 20, 21, 22, 23, 24, 25, 26, 27, 28, 29, 30, 31, 32, 33, 34, 35, 36] [] 0 (EdS w4 tb) (by kernel_rfl) (by kernel_rfl) EdS.next ⟨HS.out.1.drew, HS.out.2.keepC (Keeps.refl (fun _ => False) _).drew id (fun _ _ h => h.elim)⟩ ?_
              simp only [opsOf, List.filterMap_cons, List.filterMap_nil, List.getElem?_cons_zero, List.getElem?_cons_succ]
              iterate 7 (refine seqT_run (EdT.refl _) (v := ?_) rfl (fun u hu => ?_) ?_; rotate_left; (focus (have d7 := cell_of (hu.1.get (HU4.out.get HW.out.1 id) (by omega)); have dO := cell_keeps hu.1 hgl hgt.1 HOp.out; have dX := cell_keeps hu.1 hal hgt.2 HX.out; have dY := cell_keeps hu.1 hal hgt.2 HY.out; clear hu; go_simp; first | done | with_reducible rfl)); (try simp only [Act.put, List.setIfInBounds_toArray, List.set_cons_zero, List.set_cons_succ]))
              refine seqT_call (f := 11) (args := #[.pointer (some ⟨tb, 0, none⟩), .int .u8 yo]) (v := .bool (decide (3 ≤ km))) rfl (fun u hu => ?_) (fun u hu => (hEnd.out u hu.2).mono fun e w' h => ⟨h.1, h.2.1, fun _ => .inr h.2.2⟩) ?_
              · clear hu
                go_simp
              simp only [Act.put, List.setIfInBounds_toArray, List.set_cons_zero, List.set_cons_succ, q84]
              repeat (first
                | (refine seqT_run (EdT.refl _) (v := ?_) rfl (fun u hu => ?_) ?_; rotate_left; (focus (have d7 := cell_of (hu.1.get (HU4.out.get HW.out.1 id) (by omega)); have dO := cell_keeps hu.1 hgl hgt.1 HOp.out; have dX := cell_keeps hu.1 hal hgt.2 HX.out; have dY := cell_keeps hu.1 hal hgt.2 HY.out; clear hu; go_simp; first | done | with_reducible rfl)); (try simp only [Act.put, List.setIfInBounds_toArray, List.set_cons_zero, List.set_cons_succ]))
                | (refine seqT_no (EdT.refl _) rfl ?_; (try simp only [Act.put, List.setIfInBounds_toArray, List.set_cons_zero, List.set_cons_succ])))
              refine seqT_nil ?_
              refine tailT_zero fun u5 hu _ => ?_
              have HU5 := hidE hu
              clear hu
              go_wp2
              go_roundw
              case rel => exact ⟨(m + 1) + 1, by omega, by go_num, HU5.out⟩
              case measure => simp only [intOf]; omega
          · have q84 : decide (3 ≤ km) = true := decide_eq_true (HNE.out.2 ⟨c1, c2⟩)
            have q88 : ((j : Int) == (b.ins.length : Int) - 1) = true := beq_iff_eq.2 (by omega)
            have q92 : (b.en != 1) = true := by simpa using c2
            have c1' := hidE c1
            clear c1
            rcases j with _ | m
            · have q88 : ((0 : Int) == (b.ins.length : Int) - 1) = true := q88
              have p0 : decide ((0 : Int) < (b.ins.length : Int)) = true := decide_eq_true (by omega)
              clear HNE c1'
              go_wp2_with fail
              refine wp_region_rb (T := EdT tb) [0, 1, 2, 3, 4, 5, 6, 7, 8, 9, 10, 11, 12, 13, 14, 15, 16, 17, 18, 19, 20, 21, 22, 23, 24, 25, 26, 27, 28, 29, 30, 31, 32, 33, 34, 35, 36] [] 0 (EdS w4 tb) (by kernel_rfl) (by kernel_rfl) EdS.next ⟨HS.out.1.drew, HS.out.2.keepC (Keeps.refl (fun _ => False) _).drew id (fun _ _ h => h.elim)⟩ ?_
              simp only [opsOf, List.filterMap_cons, List.filterMap_nil, List.getElem?_cons_zero, List.getElem?_cons_succ]
              iterate 7 (refine seqT_run (EdT.refl _) (v := ?_) rfl (fun u hu => ?_) ?_; rotate_left; (focus (have d7 := cell_of (hu.1.get (HU4.out.get HW.out.1 id) (by omega)); have dO := cell_keeps hu.1 hgl hgt.1 HOp.out; clear hu; go_simp; first | done | with_reducible rfl)); (try simp only [Act.put, List.setIfInBounds_toArray, List.set_cons_zero, List.set_cons_succ]))
              refine seqT_call (f := 11) (args := #[.pointer (some ⟨tb, 0, none⟩), .int .u8 yo]) (v := .bool (decide (3 ≤ km))) rfl (fun u hu => ?_) (fun u hu => (hEnd.out u hu.2).mono fun e w' h => ⟨h.1, h.2.1, fun _ => .inr h.2.2⟩) ?_
              · clear hu
                go_simp
              simp only [Act.put, List.setIfInBounds_toArray, List.set_cons_zero, List.set_cons_succ, q84]
              repeat (first
                | (refine seqT_run (EdT.refl _) (v := ?_) rfl (fun u hu => ?_) ?_; rotate_left; (focus (have d7 := cell_of (hu.1.get (HU4.out.get HW.out.1 id) (by omega)); have dO := cell_keeps hu.1 hgl hgt.1 HOp.out; clear hu; go_simp; first | done | with_reducible rfl)); (try simp only [Act.put, List.setIfInBounds_toArray, List.set_cons_zero, List.set_cons_succ]))
                | (refine seqT_no (EdT.refl _) rfl ?_; (try simp only [Act.put, List.setIfInBounds_toArray, List.set_cons_zero, List.set_cons_succ])))
              refine seqT_nil ?_
              refine tailT_zero fun u5 hu _ => ?_
              have HU5 := hidE hu
              clear hu
              go_wp2
              go_roundw
              case rel => exact ⟨0 + 1, by omega, by go_num, HU5.out⟩
              case measure => simp only [intOf]; omega
            · have q88 : ((m : Int) + 1 == (b.ins.length : Int) - 1) = true := by rw [← q88]; rfl
              have p0 : decide ((m : Int) + 1 < (b.ins.length : Int)) = true := decide_eq_true (by omega)
              have z1 : (0 : Int) ≤ (m : Int) + 1 := by omega
              have z2 : (m : Int) + 1 < (b.ins.length : Int) := by omega
              have z3 : (m : Int) < (b.ins.length : Int) := by omega
              have e3 := wrapI ((m : Int) + 1 + 1) (by omega) (by omega)
              have m1 : m < b.at_.length := by have := HEE.out.la; omega
              have m2 : m + 1 < b.at_.length := by have := HEE.out.la; omega
              have hdf := HEE.out.df m b.at_[m] b.at_[m + 1] (by simp [m1]) (by simp [m2])
              have HX := hidE (cell_same HU4.out (cell_same HK3w.out (HCA.out m m1)))
              have HY := hidE (cell_same HU4.out (cell_same HK3w.out (HCA.out (m + 1) m2)))
              generalize b.at_[m] = zx at hdf HX
              generalize b.at_[m + 1] = zy at hdf HY
              have q97 : decide ((0 : Int) < (m : Int) + 1) = true := decide_eq_true (by omega)
              have q98 : IntKind.u32.wrap (zy - zx) = (zy - zx) % 4294967296 := by simp [IntKind.wrap, IntKind.bits, IntKind.signed]
              have q99 : decide (6 < (zy - zx) % 4294967296) = false := decide_eq_false (by omega)
              have e6 := wrapI (m : Int) (by omega) (by omega)
              clear HNE c1'
              go_wp2_with fail
              refine wp_region_rb (T := EdT tb) [0, 1, 2, 3, 4, 5, 6, 7, 8, 9, 10, 11, 12, 13, 14, 15, 16, 17, 18, 19, 20, 21, 22, 23, 24, 25, 26, 27, 28, 29, 30, 31, 32, 33, 34, 35, 36] [] 0 (EdS w4 tb) (by kernel_rfl) (by kernel_rfl) EdS.next ⟨HS.out.1.drew, HS.out.2.keepC (Keeps.refl (fun _ => False) _).drew id (fun _ _ h => h.elim)⟩ ?_
              simp only [opsOf, List.filterMap_cons, List.filterMap_nil, List.getElem?_cons_zero, List.getElem?_cons_succ]
              iterate 7 (refine seqT_run (EdT.refl _) (v := ?_) rfl (fun u hu => ?_) ?_; rotate_left; (focus (have d7 := cell_of (hu.1.get (HU4.out.get HW.out.1 id) (by omega)); have dO := cell_keeps hu.1 hgl hgt.1 HOp.out; have dX := cell_keeps hu.1 hal hgt.2 HX.out; have dY := cell_keeps hu.1 hal hgt.2 HY.out; clear hu; go_simp; first | done | with_reducible rfl)); (try simp only [Act.put, List.setIfInBounds_toArray, List.set_cons_zero, List.set_cons_succ]))
              refine seqT_call (f := 11) (args := #[.pointer (some ⟨tb, 0, none⟩), .int .u8 yo]) (v := .bool (decide (3 ≤ km))) rfl (fun u hu => ?_) (fun u hu => (hEnd.out u hu.2).mono fun e w' h => ⟨h.1, h.2.1, fun _ => .inr h.2.2⟩) ?_
              · clear hu
                go_simp
              simp only [Act.put, List.setIfInBounds_toArray, List.set_cons_zero, List.set_cons_succ, q84]
              repeat (first
                | (refine seqT_run (EdT.refl _) (v := ?_) rfl (fun u hu => ?_) ?_; rotate_left; (focus (have d7 := cell_of (hu.1.get (HU4.out.get HW.out.1 id) (by omega)); have dO := cell_keeps hu.1 hgl hgt.1 HOp.out; have dX := cell_keeps hu.1 hal hgt.2 HX.out; have dY := cell_keeps hu.1 hal hgt.2 HY.out; clear hu; go_simp; first | done | with_reducible rfl)); (try simp only [Act.put, List.setIfInBounds_toArray, List.set_cons_zero, List.set_cons_succ]))
                | (refine seqT_no (EdT.refl _) rfl ?_; (try simp only [Act.put, List.setIfInBounds_toArray, List.set_cons_zero, List.set_cons_succ])))
              refine seqT_nil ?_
              refine tailT_zero fun u5 hu _ => ?_
              have HU5 := hidE hu
              clear hu
              go_wp2
              go_roundw
              case rel => exact ⟨(m + 1) + 1, by omega, by go_num, HU5.out⟩
              case measure => simp only [intOf]; omega
          · have q84 : decide (3 ≤ km) = false := decide_eq_false (fun h => c1 (HNE.out.1 h).1)
            have q88 : ((j : Int) == (b.ins.length : Int) - 1) = false := beq_eq_false_iff_ne.2 (by omega)
            have c1' := hidE c1
            clear c1
            rcases j with _ | m
            · have q88 : ((0 : Int) == (b.ins.length : Int) - 1) = false := q88
              have p0 : decide ((0 : Int) < (b.ins.length : Int)) = true := decide_eq_true (by omega)
              clear HNE c1'
              go_wp2_with fail
              refine wp_region_rb (T := EdT tb) [0, 1, 2, 3, 4, 5, 6, 7, 8, 9, 10, 11, 12, 13, 14, 15, 16, 17, 18, 19, 20, 21, 22, 23, 24, 25, 26, 27, 28, 29, 30, 31, 32, 33, 34, 35, 36] [] 0 (EdS w4 tb) (by kernel_rfl) (by kernel_rfl) EdS.next ⟨HS.out.1.drew, HS.out.2.keepC (Keeps.refl (fun _ => False) _).drew id (fun _ _ h => h.elim)⟩ ?_
              simp only [opsOf, List.filterMap_cons, List.filterMap_nil, List.getElem?_cons_zero, List.getElem?_cons_succ]
              iterate 7 (refine seqT_run (EdT.refl _) (v := ?_) rfl (fun u hu => ?_) ?_; rotate_left; (focus (have d7 := cell_of (hu.1.get (HU4.out.get HW.out.1 id) (by omega)); have dO := cell_keeps hu.1 hgl hgt.1 HOp.out; clear hu; go_simp; first | done | with_reducible rfl)); (try simp only [Act.put, List.setIfInBounds_toArray, List.set_cons_zero, List.set_cons_succ]))
              refine seqT_call (f := 11) (args := #[.pointer (some ⟨tb, 0, none⟩), .int .u8 yo]) (v := .bool (decide (3 ≤ km))) rfl (fun u hu => ?_) (fun u hu => (hEnd.out u hu.2).mono fun e w' h => ⟨h.1, h.2.1, fun _ => .inr h.2.2⟩) ?_
              · clear hu
                go_simp
              simp only [Act.put, List.setIfInBounds_toArray, List.set_cons_zero, List.set_cons_succ, q84]
              repeat (first
                | (refine seqT_run (EdT.refl _) (v := ?_) rfl (fun u hu => ?_) ?_; rotate_left; (focus (have d7 := cell_of (hu.1.get (HU4.out.get HW.out.1 id) (by omega)); have dO := cell_keeps hu.1 hgl hgt.1 HOp.out; clear hu; go_simp; first | done | with_reducible rfl)); (try simp only [Act.put, List.setIfInBounds_toArray, List.set_cons_zero, List.set_cons_succ]))
                | (refine seqT_no (EdT.refl _) rfl ?_; (try simp only [Act.put, List.setIfInBounds_toArray, List.set_cons_zero, List.set_cons_succ])))
              refine seqT_nil ?_
              refine tailT_zero fun u5 hu _ => ?_
              have HU5 := hidE hu
              clear hu
              go_wp2
              go_roundw
              case rel => exact ⟨0 + 1, by omega, by go_num, HU5.out⟩
              case measure => simp only [intOf]; omega
            · have q88 : ((m : Int) + 1 == (b.ins.length : Int) - 1) = false := by rw [← q88]; rfl
              have p0 : decide ((m : Int) + 1 < (b.ins.length : Int)) = true := decide_eq_true (by omega)
              have z1 : (0 : Int) ≤ (m : Int) + 1 := by omega
              have z2 : (m : Int) + 1 < (b.ins.length : Int) := by omega
              have z3 : (m : Int) < (b.ins.length : Int) := by omega
              have e3 := wrapI ((m : Int) + 1 + 1) (by omega) (by omega)
              have m1 : m < b.at_.length := by have := HEE.out.la; omega
              have m2 : m + 1 < b.at_.length := by have := HEE.out.la; omega
              have hdf := HEE.out.df m b.at_[m] b.at_[m + 1] (by simp [m1]) (by simp [m2])
              have HX := hidE (cell_same HU4.out (cell_same HK3w.out (HCA.out m m1)))
              have HY := hidE (cell_same HU4.out (cell_same HK3w.out (HCA.out (m + 1) m2)))
              generalize b.at_[m] = zx at hdf HX
              generalize b.at_[m + 1] = zy at hdf HY
              have q97 : decide ((0 : Int) < (m : Int) + 1) = true := decide_eq_true (by omega)
              have q98 : IntKind.u32.wrap (zy - zx) = (zy - zx) % 4294967296 := by simp [IntKind.wrap, IntKind.bits, IntKind.signed]
              have q99 : decide (6 < (zy - zx) % 4294967296) = false := decide_eq_false (by omega)
              have e6 := wrapI (m : Int) (by omega) (by omega)
              clear HNE c1'
              go_wp2_with fail
              refine wp_region_rb (T := EdT tb) [0, 1, 2, 3, 4, 5, 6, 7, 8, 9, 10, 11, 12, 13, 14, 15, 16, 17, 18, 19, 20, 21, 22, 23, 24, 25, 26, 27, 28, 29, 30, 31, 32, 33, 34, 35, 36] [] 0 (EdS w4 tb) (by kernel_rfl) (by kernel_rfl) EdS.next ⟨HS.out.1.drew, HS.out.2.keepC (Keeps.refl (fun _ => False) _).drew id (fun _ _ h => h.elim)⟩ ?_
              simp only [opsOf, List.filterMap_cons, List.filterMap_nil, List.getElem?_cons_zero, List.getElem?_cons_succ]
              iterate 7 (refine seqT_run (EdT.refl _) (v := ?_) rfl (fun u hu => ?_) ?_; rotate_left; (focus (have d7 := cell_of (hu.1.get (HU4.out.get HW.out.1 id) (by omega)); have dO := cell_keeps hu.1 hgl hgt.1 HOp.out; have dX := cell_keeps hu.1 hal hgt.2 HX.out; have dY := cell_keeps hu.1 hal hgt.2 HY.out; clear hu; go_simp; first | done | with_reducible rfl)); (try simp only [Act.put, List.setIfInBounds_toArray, List.set_cons_zero, List.set_cons_succ]))
              refine seqT_call (f := 11) (args := #[.pointer (some ⟨tb, 0, none⟩), .int .u8 yo]) (v := .bool (decide (3 ≤ km))) rfl (fun u hu => ?_) (fun u hu => (hEnd.out u hu.2).mono fun e w' h => ⟨h.1, h.2.1, fun _ => .inr h.2.2⟩) ?_
              · clear hu
                go_simp
              simp only [Act.put, List.setIfInBounds_toArray, List.set_cons_zero, List.set_cons_succ, q84]
              repeat (first
                | (refine seqT_run (EdT.refl _) (v := ?_) rfl (fun u hu => ?_) ?_; rotate_left; (focus (have d7 := cell_of (hu.1.get (HU4.out.get HW.out.1 id) (by omega)); have dO := cell_keeps hu.1 hgl hgt.1 HOp.out; have dX := cell_keeps hu.1 hal hgt.2 HX.out; have dY := cell_keeps hu.1 hal hgt.2 HY.out; clear hu; go_simp; first | done | with_reducible rfl)); (try simp only [Act.put, List.setIfInBounds_toArray, List.set_cons_zero, List.set_cons_succ]))
                | (refine seqT_no (EdT.refl _) rfl ?_; (try simp only [Act.put, List.setIfInBounds_toArray, List.set_cons_zero, List.set_cons_succ])))
              refine seqT_nil ?_
              refine tailT_zero fun u5 hu _ => ?_
              have HU5 := hidE hu
              clear hu
              go_wp2
              go_roundw
              case rel => exact ⟨(m + 1) + 1, by omega, by go_num, HU5.out⟩
              case measure => simp only [intOf]; omega
        · have p0 : decide ((j : Int) < (b.ins.length : Int)) = false := decide_eq_false (by omega)
          have d7 := cell_of (HS.out.1.get (HU4.out.get HW.out.1 id) (by omega))
          have hNtb : w.heap.size < tb := by have h1 := HK2.out.size; omega
          have dG := cell_of (HS.out.1.get (HU4.out.get HW.out.2 id) (by omega))
          have a4 := and_4 (ps : Int) (by omega) (by have := HG.out.st.hp; omega)
          have f1 : decide ((1 : Int) ≤ (b.fr.length : Int)) = true := decide_eq_true (by have := HEE.out.f1; omega)
          have f2 : decide ((b.fr.length : Int) ≤ 2) = true := decide_eq_true (by have := HEE.out.f2; omega)
          have hgp : s0[13]? = some (.int .u32 (ps : Nat)) := by
            have := HG.out.st.e9
            rw [Array.getElem?_extract] at this
            simpa [hsz] using this
          obtain ⟨_, g13⟩ := Array.getElem?_eq_some_iff.1 hgp
          have HKE := hidE (same_then (HK3.out.trans HU4.out) HS.out.1 (fun k hk => by omega))
          obtain ⟨Q, hQ1, hQ2⟩ : ∃ Q : Bool, ((ps : Int) / 4 % 2 * 4 == 0) = Q ∧ ((b.tb.length : Int) == 0) = Q := by
            by_cases h4 : ps / 4 % 2 = 0
            · exact ⟨true, beq_iff_eq.2 (by omega), beq_iff_eq.2 (by rw [HEE.out.tb.1 h4]; rfl)⟩
            · refine ⟨false, beq_eq_false_iff_ne.2 (by omega), beq_eq_false_iff_ne.2 (fun e => h4 (HEE.out.tb.2 (List.length_eq_zero_iff.1 (by omega))))⟩
          have hQ3 : (b.tb.length == 0) = Q := by rw [← hQ2]; exact Bool.eq_iff_iff.2 (by simp)
          clear hgp
          go_wp2_with fail
          refine (works_any _).mono ?_
          rintro _ w6 ⟨rfl, hk6⟩
          have HK6 := hidE (HKE.out.trans hk6)
          clear hk6
          go_wp2
          go_ret
          exact ⟨rfl, HK6.out⟩
    · have q5 : decide (x1 < (b.ins.length : Int)) = true := decide_eq_true (by omega)
      have q6 : decide ((1 : Int) < (b.ins.length : Int)) = false := decide_eq_false (by have := HEE.out.nm; omega)
      have q7 : decide (1 < b.ins.length) = false := decide_eq_false (by have := HEE.out.nm; omega)
      go_wp2_with fail
      refine wp_region_ra [0, 1, 2, 3, 4, 5, 6, 7, 8, 9, 10, 11, 12, 13, 14, 15, 16, 17, 18, 19, 20, 21, 22, 23, 24, 25, 26, 27, 28, 29, 30, 31] [] 0 (Same _) (by kernel_rfl) (by kernel_rfl) (fun u u' h k => Keeps.trans h k) (Keeps.refl _ _).drew ?_
      simp only [opsOf, List.filterMap_cons, List.filterMap_nil, List.getElem?_cons_zero, List.getElem?_cons_succ]
      repeat (first
        | (refine seqV_run (v := ?_) rfl (fun u hu => ?_) ?_; rotate_left; (focus (have d7 := cell_of (hu.get HW.out.1 id); have dG := cell_of (hu.get HW.out.2 id); have dA := cell_same hu HA0.out; clear hu; go_simp; first | done | with_reducible rfl)); (try simp only [Act.put, List.setIfInBounds_toArray, List.set_cons_zero, List.set_cons_succ]))
        | (refine seqV_no rfl ?_; (try simp only [Act.put, List.setIfInBounds_toArray, List.set_cons_zero, List.set_cons_succ])))
      refine seqV_nil ?_
      refine tailR_zero fun u1 hu _ => ?_
      have HU := hidE hu
      clear hu
      go_wp2_with fail
      refine (kind_new _).mono ?_
      rintro _ w4 ⟨rfl, ht4, hk4⟩
      generalize htb : u1.heap.size = tb at *
      have HT := hidE htb
      clear htb
      have HU4 := hidE (HU.out.trans hk4)
      have HTN := hidE ht4
      have hs2 : w2.heap.size + 1 < tb := by have h1 := HU.out.size; have h2 := HT.out; simp at h1; omega
      clear ht4 hk4
      go_wp2_with fail
      go_loopw [11] (fun t11 wr => ∃ j : Nat, j ≤ b.ins.length ∧ t11 = .int .i64 j ∧ EdS w4 tb wr) (fun t11 _ => b.ins.length - (intOf t11).toNat)
      case atStart => exact ⟨0, by omega, rfl, Keeps.refl _ _, .inl HTN.out⟩
      case round =>
        obtain ⟨j, hj, rfl, hS⟩ := hrel
        have HS := hidE hS
        have e3 := wrapI ((j : Int) + 1) (by omega) (by omega)
        have e4 := wrapI ((b.ins.length : Int) - 1) (by omega) (by omega)
        clear hS
        by_cases hlt : j < b.ins.length
        · have p0 : decide ((j : Int) < (b.ins.length : Int)) = true := decide_eq_true (by omega)
          have hob := HEE.out.ob b.ins[j] (by simp)
          have hne := HEE.out.ne j b.ins[j] (by simp [hlt])
          have HOp := hidE (cell_same HU4.out (cell_same HK3w.out (HCI.out j hlt).1))
          have hgl := Nat.lt_of_lt_of_le (Nat.lt_of_lt_of_le HGl.out.1 HK3w.out.size) HU4.out.size
          have hal := Nat.lt_of_lt_of_le (Nat.lt_of_lt_of_le HGl.out.2 HK3w.out.size) HU4.out.size
          have hgt : gi ≠ tb ∧ ga ≠ tb := by have h1 := HGl.out.1; have h2 := HGl.out.2; omega
          generalize b.ins[j] = y at *
          obtain ⟨yo, ya, yb, yi⟩ := y
          simp only at hob hne HOp
          have hEnd := hidE (fun u (h : TabOk u tb) => ends_ok u tb yo hob.1 hob.2 h)
          generalize hkm : (kindM yo).1 = km at hEnd hne
          clear hkm
          have HNE := hidE hne
          clear hne
          rcases (show (j + 1 = b.ins.length ∧ b.en = 1) ∨ (j + 1 = b.ins.length ∧ b.en ≠ 1) ∨ j + 1 ≠ b.ins.length by omega) with ⟨c1, c2⟩ | ⟨c1, c2⟩ | c1
          · have q84 : decide (3 ≤ km) = false := decide_eq_false (fun h => (HNE.out.1 h).2 c2)
            have q88 : ((j : Int) == (b.ins.length : Int) - 1) = true := beq_iff_eq.2 (by omega)
            have q92 : (b.en != 1) = false := by simpa using c2
            have c1' := hidE c1
            clear c1
            rcases j with _ | m
            · have q88 : ((0 : Int) == (b.ins.length : Int) - 1) = true := q88
              have p0 : decide ((0 : Int) < (b.ins.length : Int)) = true := decide_eq_true (by omega)
              clear HNE c1'
              go_wp2_with fail
              refine wp_region_rb (T := EdT tb) [0, 1, 2, 3, 4, 5, 6, 7, 8, 9, 10, 11, 12, 13, 14, 15, 16, 17, 18, 19, 20, 21, 22, 23, 24, 25, 26, 27, 28, 29, 30, 31, 32, 33, 34, 35, 36] [] 0 (EdS w4 tb) (by kernel_rfl) (by kernel_rfl) EdS.next ⟨HS.out.1.drew, HS.out.2.keepC (Keeps.refl (fun _ => False) _).drew id (fun _ _ h => h.elim)⟩ ?_
              simp only [opsOf, List.filterMap_cons, List.filterMap_nil, List.getElem?_cons_zero, List.getElem?_cons_succ]
              iterate 7 (refine seqT_run (EdT.refl _) (v := ?_) rfl (fun u hu => ?_) ?_; rotate_left; (focus (have d7 := cell_of (hu.1.get (HU4.out.get HW.out.1 id) (by omega)); have dO := cell_keeps hu.1 hgl hgt.1 HOp.out; clear hu; go_simp; first | done | with_reducible rfl)); (try simp only [Act.put, List.setIfInBounds_toArray, List.set_cons_zero, List.set_cons_succ]))
              refine seqT_call (f := 11) (args := #[.pointer (some ⟨tb, 0, none⟩), .int .u8 yo]) (v := .bool (decide (3 ≤ km))) rfl (fun u hu => ?_) (fun u hu => (hEnd.out u hu.2).mono fun e w' h => ⟨h.1, h.2.1, fun _ => .inr h.2.2⟩) ?_
              · clear hu
                go_simp
              simp only [Act.put, List.setIfInBounds_toArray, List.set_cons_zero, List.set_cons_succ, q84]
              repeat (first
                | (refine seqT_run (EdT.refl _) (v := ?_) rfl (fun u hu => ?_) ?_; rotate_left; (focus (have d7 := cell_of (hu.1.get (HU4.out.get HW.out.1 id) (by omega)); have dO := cell_keeps hu.1 hgl hgt.1 HOp.out; clear hu; go_simp; first | done | with_reducible rfl)); (try simp only [Act.put, List.setIfInBounds_toArray, List.set_cons_zero, List.set_cons_succ]))
                | (refine seqT_no (EdT.refl _) rfl ?_; (try simp only [Act.put, List.setIfInBounds_toArray, List.set_cons_zero, List.set_cons_succ])))
              refine seqT_nil ?_
              refine tailT_zero fun u5 hu _ => ?_
              have HU5 := hidE hu
              clear hu
              go_wp2
              go_roundw
              case rel => exact ⟨0 + 1, by omega, by go_num, HU5.out⟩
              case measure => simp only [intOf]; omega
            · have q88 : ((m : Int) + 1 == (b.ins.length : Int) - 1) = true := by rw [← q88]; rfl
              have p0 : decide ((m : Int) + 1 < (b.ins.length : Int)) = true := decide_eq_true (by omega)
              have z1 : (0 : Int) ≤ (m : Int) + 1 := by omega
              have z2 : (m : Int) + 1 < (b.ins.length : Int) := by omega
              have z3 : (m : Int) < (b.ins.length : Int) := by omega
              have e3 := wrapI ((m : Int) + 1 + 1) (by omega) (by omega)
              have m1 : m < b.at_.length := by have := HEE.out.la; omega
              have m2 : m + 1 < b.at_.length := by have := HEE.out.la; omega
              have hdf := HEE.out.df m b.at_[m] b.at_[m + 1] (by simp [m1]) (by simp [m2])
              have HX := hidE (cell_same HU4.out (cell_same HK3w.out (HCA.out m m1)))
              have HY := hidE (cell_same HU4.out (cell_same HK3w.out (HCA.out (m + 1) m2)))
              generalize b.at_[m] = zx at hdf HX
              generalize b.at_[m + 1] = zy at hdf HY
              have q97 : decide ((0 : Int) < (m : Int) + 1) = true := decide_eq_true (by omega)
              have q98 : IntKind.u32.wrap (zy - zx) = (zy - zx) % 4294967296 := by simp [IntKind.wrap, IntKind.bits, IntKind.signed]
              have q99 : decide (6 < (zy - zx) % 4294967296) = false := decide_eq_false (by omega)
              have e6 := wrapI (m : Int) (by omega) (by omega)
              clear HNE c1'
              go_wp2_with fail
              refine wp_region_rb (T := EdT tb) [0, 1, 2, 3, 4, 5, 6, 7, 8, 9, 10, 11, 12, 13, 14, 15, 16, 17, 18, 19, 20, 21, 22, 23, 24, 25, 26, 27, 28, 29, 30, 31, 32, 33, 34, 35, 36] [] 0 (EdS w4 tb) (by kernel_rfl) (by kernel_rfl) EdS.next ⟨HS.out.1.drew, HS.out.2.keepC (Keeps.refl (fun _ => False) _).drew id (fun _ _ h => h.elim)⟩ ?_
              simp only [opsOf, List.filterMap_cons, List.filterMap_nil, List.getElem?_cons_zero, List.getElem?_cons_succ]
              iterate 7 (refine seqT_run (EdT.refl _) (v := ?_) rfl (fun u hu => ?_) ?_; rotate_left; (focus (have d7 := cell_of (hu.1.get (HU4.out.get HW.out.1 id) (by omega)); have dO := cell_keeps hu.1 hgl hgt.1 HOp.out; have dX := cell_keeps hu.1 hal hgt.2 HX.out; have dY := cell_keeps hu.1 hal hgt.2 HY.out; clear hu; go_simp; first | done | with_reducible rfl)); (try simp only [Act.put, List.setIfInBounds_toArray, List.set_cons_zero, List.set_cons_succ]))
              refine seqT_call (f := 11) (args := #[.pointer (some ⟨tb, 0, none⟩), .int .u8 yo]) (v := .bool (decide (3 ≤ km))) rfl (fun u hu => ?_) (fun u hu => (hEnd.out u hu.2).mono fun e w' h => ⟨h.1, h.2.1, fun _ => .inr h.2.2⟩) ?_
              · clear hu
                go_simp
              simp only [Act.put, List.setIfInBounds_toArray, List.set_cons_zero, List.set_cons_succ, q84]
              repeat (first
                | (refine seqT_run (EdT.refl _) (v := ?_) rfl (fun u hu => ?_) ?_; rotate_left; (focus (have d7 := cell_of (hu.1.get (HU4.out.get HW.out.1 id) (by omega)); have dO := cell_keeps hu.1 hgl hgt.1 HOp.out; have dX := cell_keeps hu.1 hal hgt.2 HX.out; have dY := cell_keeps hu.1 hal hgt.2 HY.out; clear hu; go_simp; first | done | with_reducible rfl)); (try simp only [Act.put, List.setIfInBounds_toArray, List.set_cons_zero, List.set_cons_succ]))
                | (refine seqT_no (EdT.refl _) rfl ?_; (try simp only [Act.put, List.setIfInBounds_toArray, List.set_cons_zero, List.set_cons_succ])))
              refine seqT_nil ?_
              refine tailT_zero fun u5 hu _ => ?_
              have HU5 := hidE hu
              clear hu
              go_wp2
              go_roundw
              case rel => exact ⟨(m + 1) + 1, by omega, by go_num, HU5.out⟩
              case measure => simp only [intOf]; omega
          · have q84 : decide (3 ≤ km) = true := decide_eq_true (HNE.out.2 ⟨c1, c2⟩)
            have q88 : ((j : Int) == (b.ins.length : Int) - 1) = true := beq_iff_eq.2 (by omega)
            have q92 : (b.en != 1) = true := by simpa using c2
            have c1' := hidE c1
            clear c1
            rcases j with _ | m
            · have q88 : ((0 : Int) == (b.ins.length : Int) - 1) = true := q88
              have p0 : decide ((0 : Int) < (b.ins.length : Int)) = true := decide_eq_true (by omega)
              clear HNE c1'
              go_wp2_with fail
              refine wp_region_rb (T := EdT tb) [0, 1, 2, 3, 4, 5, 6, 7, 8, 9, 10, 11, 12, 13, 14, 15, 16, 17, 18, 19, 20, 21, 22, 23, 24, 25, 26, 27, 28, 29, 30, 31, 32, 33, 34, 35, 36] [] 0 (EdS w4 tb) (by kernel_rfl) (by kernel_rfl) EdS.next ⟨HS.out.1.drew, HS.out.2.keepC (Keeps.refl (fun _ => False) _).drew id (fun _ _ h => h.elim)⟩ ?_
              simp only [opsOf, List.filterMap_cons, List.filterMap_nil, List.getElem?_cons_zero, List.getElem?_cons_succ]
              iterate 7 (refine seqT_run (EdT.refl _) (v := ?_) rfl (fun u hu => ?_) ?_; rotate_left; (focus (have d7 := cell_of (hu.1.get (HU4.out.get HW.out.1 id) (by omega)); have dO := cell_keeps hu.1 hgl hgt.1 HOp.out; clear hu; go_simp; first | done | with_reducible rfl)); (try simp only [Act.put, List.setIfInBounds_toArray, List.set_cons_zero, List.set_cons_succ]))
              refine seqT_call (f := 11) (args := #[.pointer (some ⟨tb, 0, none⟩), .int .u8 yo]) (v := .bool (decide (3 ≤ km))) rfl (fun u hu => ?_) (fun u hu => (hEnd.out u hu.2).mono fun e w' h => ⟨h.1, h.2.1, fun _ => .inr h.2.2⟩) ?_
              · clear hu
                go_simp
              simp only [Act.put, List.setIfInBounds_toArray, List.set_cons_zero, List.set_cons_succ, q84]
              repeat (first
                | (refine seqT_run (EdT.refl _) (v := ?_) rfl (fun u hu => ?_) ?_; rotate_left; (focus (have d7 := cell_of (hu.1.get (HU4.out.get HW.out.1 id) (by omega)); have dO := cell_keeps hu.1 hgl hgt.1 HOp.out; clear hu; go_simp; first | done | with_reducible rfl)); (try simp only [Act.put, List.setIfInBounds_toArray, List.set_cons_zero, List.set_cons_succ]))
                | (refine seqT_no (EdT.refl _) rfl ?_; (try simp only [Act.put, List.setIfInBounds_toArray, List.set_cons_zero, List.set_cons_succ])))
              refine seqT_nil ?_
              refine tailT_zero fun u5 hu _ => ?_
              have HU5 := hidE hu
              clear hu
              go_wp2
              go_roundw
              case rel => exact ⟨0 + 1, by omega, by go_num, HU5.out⟩
              case measure => simp only [intOf]; omega
            · have q88 : ((m : Int) + 1 == (b.ins.length : Int) - 1) = true := by rw [← q88]; rfl
              have p0 : decide ((m : Int) + 1 < (b.ins.length : Int)) = true := decide_eq_true (by omega)
              have z1 : (0 : Int) ≤ (m : Int) + 1 := by omega
              have z2 : (m : Int) + 1 < (b.ins.length : Int) := by omega
              have z3 : (m : Int) < (b.ins.length : Int) := by omega
              have e3 := wrapI ((m : Int) + 1 + 1) (by omega) (by omega)
              have m1 : m < b.at_.length := by have := HEE.out.la; omega
              have m2 : m + 1 < b.at_.length := by have := HEE.out.la; omega
              have hdf := HEE.out.df m b.at_[m] b.at_[m + 1] (by simp [m1]) (by simp [m2])
              have HX := hidE (cell_same HU4.out (cell_same HK3w.out (HCA.out m m1)))
              have HY := hidE (cell_same HU4.out (cell_same HK3w.out (HCA.out (m + 1) m2)))
              generalize b.at_[m] = zx at hdf HX
              generalize b.at_[m + 1] = zy at hdf HY
              have q97 : decide ((0 : Int) < (m : Int) + 1) = true := decide_eq_true (by omega)
              have q98 : IntKind.u32.wrap (zy - zx) = (zy - zx) % 4294967296 := by simp [IntKind.wrap, IntKind.bits, IntKind.signed]
              have q99 : decide (6 < (zy - zx) % 4294967296) = false := decide_eq_false (by omega)
              have e6 := wrapI (m : Int) (by omega) (by omega)
              clear HNE c1'
              go_wp2_with fail
              refine wp_region_rb (T := EdT tb) [0, 1, 2, 3, 4, 5, 6, 7, 8, 9, 10, 11, 12, 13, 14, 15, 16, 17, 18, 19, 20, 21, 22, 23, 24, 25, 26, 27, 28, 29, 30, 31, 32, 33, 34, 35, 36] [] 0 (EdS w4 tb) (by kernel_rfl) (by kernel_rfl) EdS.next ⟨HS.out.1.drew, HS.out.2.keepC (Keeps.refl (fun _ => False) _).drew id (fun _ _ h => h.elim)⟩ ?_
              simp only [opsOf, List.filterMap_cons, List.filterMap_nil, List.getElem?_cons_zero, List.getElem?_cons_succ]
              iterate 7 (refine seqT_run (EdT.refl _) (v := ?_) rfl (fun u hu => ?_) ?_; rotate_left; (focus (have d7 := cell_of (hu.1.get (HU4.out.get HW.out.1 id) (by omega)); have dO := cell_keeps hu.1 hgl hgt.1 HOp.out; have dX := cell_keeps hu.1 hal hgt.2 HX.out; have dY := cell_keeps hu.1 hal hgt.2 HY.out; clear hu; go_simp; first | done | with_reducible rfl)); (try simp only [Act.put, List.setIfInBounds_toArray, List.set_cons_zero, List.set_cons_succ]))
              refine seqT_call (f := 11) (args := #[.pointer (some ⟨tb, 0, none⟩), .int .u8 yo]) (v := .bool (decide (3 ≤ km))) rfl (fun u hu => ?_) (fun u hu => (hEnd.out u hu.2).mono fun e w' h => ⟨h.1, h.2.1, fun _ => .inr h.2.2⟩) ?_
              · clear hu
                go_simp
              simp only [Act.put, List.setIfInBounds_toArray, List.set_cons_zero, List.set_cons_succ, q84]
              repeat (first
                | (refine seqT_run (EdT.refl _) (v := ?_) rfl (fun u hu => ?_) ?_; rotate_left; (focus (have d7 := cell_of (hu.1.get (HU4.out.get HW.out.1 id) (by omega)); have dO := cell_keeps hu.1 hgl hgt.1 HOp.out; have dX := cell_keeps hu.1 hal hgt.2 HX.out; have dY := cell_keeps hu.1 hal hgt.2 HY.out; clear hu; go_simp; first | done | with_reducible rfl)); (try simp only [Act.put, List.setIfInBounds_toArray, List.set_cons_zero, List.set_cons_succ]))
                | (refine seqT_no (EdT.refl _) rfl ?_; (try simp only [Act.put, List.setIfInBounds_toArray, List.set_cons_zero, List.set_cons_succ])))
              refine seqT_nil ?_
              refine tailT_zero fun u5 hu _ => ?_
              have HU5 := hidE hu
              clear hu
              go_wp2
              go_roundw
              case rel => exact ⟨(m + 1) + 1, by omega, by go_num, HU5.out⟩
              case measure => simp only [intOf]; omega
          · have q84 : decide (3 ≤ km) = false := decide_eq_false (fun h => c1 (HNE.out.1 h).1)
            have q88 : ((j : Int) == (b.ins.length : Int) - 1) = false := beq_eq_false_iff_ne.2 (by omega)
            have c1' := hidE c1
            clear c1
            rcases j with _ | m
            · have q88 : ((0 : Int) == (b.ins.length : Int) - 1) = false := q88
              have p0 : decide ((0 : Int) < (b.ins.length : Int)) = true := decide_eq_true (by omega)
              clear HNE c1'
              go_wp2_with fail
              refine wp_region_rb (T := EdT tb) [0, 1, 2, 3, 4, 5, 6, 7, 8, 9, 10, 11, 12, 13, 14, 15, 16, 17, 18, 19, 20, 21, 22, 23, 24, 25, 26, 27, 28, 29, 30, 31, 32, 33, 34, 35, 36] [] 0 (EdS w4 tb) (by kernel_rfl) (by kernel_rfl) EdS.next ⟨HS.out.1.drew, HS.out.2.keepC (Keeps.refl (fun _ => False) _).drew id (fun _ _ h => h.elim)⟩ ?_
              simp only [opsOf, List.filterMap_cons, List.filterMap_nil, List.getElem?_cons_zero, List.getElem?_cons_succ]
              iterate 7 (refine seqT_run (EdT.refl _) (v := ?_) rfl (fun u hu => ?_) ?_; rotate_left; (focus (have d7 := cell_of (hu.1.get (HU4.out.get HW.out.1 id) (by omega)); have dO := cell_keeps hu.1 hgl hgt.1 HOp.out; clear hu; go_simp; first | done | with_reducible rfl)); (try simp only [Act.put, List.setIfInBounds_toArray, List.set_cons_zero, List.set_cons_succ]))
              refine seqT_call (f := 11) (args := #[.pointer (some ⟨tb, 0, none⟩), .int .u8 yo]) (v := .bool (decide (3 ≤ km))) rfl (fun u hu => ?_) (fun u hu => (hEnd.out u hu.2).mono fun e w' h => ⟨h.1, h.2.1, fun _ => .inr h.2.2⟩) ?_
              · clear hu
                go_simp
              simp only [Act.put, List.setIfInBounds_toArray, List.set_cons_zero, List.set_cons_succ, q84]
              repeat (first
                | (refine seqT_run (EdT.refl _) (v := ?_) rfl (fun u hu => ?_) ?_; rotate_left; (focus (have d7 := cell_of (hu.1.get (HU4.out.get HW.out.1 id) (by omega)); have dO := cell_keeps hu.1 hgl hgt.1 HOp.out; clear hu; go_simp; first | done | with_reducible rfl)); (try simp only [Act.put, List.setIfInBounds_toArray, List.set_cons_zero, List.set_cons_succ]))
                | (refine seqT_no (EdT.refl _) rfl ?_; (try simp only [Act.put, List.setIfInBounds_toArray, List.set_cons_zero, List.set_cons_succ])))
              refine seqT_nil ?_
              refine tailT_zero fun u5 hu _ => ?_
              have HU5 := hidE hu
              clear hu
              go_wp2
              go_roundw
              case rel => exact ⟨0 + 1, by omega, by go_num, HU5.out⟩
              case measure => simp only [intOf]; omega
            · have q88 : ((m : Int) + 1 == (b.ins.length : Int) - 1) = false := by rw [← q88]; rfl
              have p0 : decide ((m : Int) + 1 < (b.ins.length : Int)) = true := decide_eq_true (by omega)
              have z1 : (0 : Int) ≤ (m : Int) + 1 := by omega
              have z2 : (m : Int) + 1 < (b.ins.length : Int) := by omega
              have z3 : (m : Int) < (b.ins.length : Int) := by omega
              have e3 := wrapI ((m : Int) + 1 + 1) (by omega) (by omega)
              have m1 : m < b.at_.length := by have := HEE.out.la; omega
              have m2 : m + 1 < b.at_.length := by have := HEE.out.la; omega
              have hdf := HEE.out.df m b.at_[m] b.at_[m + 1] (by simp [m1]) (by simp [m2])
              have HX := hidE (cell_same HU4.out (cell_same HK3w.out (HCA.out m m1)))
              have HY := hidE (cell_same HU4.out (cell_same HK3w.out (HCA.out (m + 1) m2)))
              generalize b.at_[m] = zx at hdf HX
              generalize b.at_[m + 1] = zy at hdf HY
              have q97 : decide ((0 : Int) < (m : Int) + 1) = true := decide_eq_true (by omega)
              have q98 : IntKind.u32.wrap (zy - zx) = (zy - zx) % 4294967296 := by simp [IntKind.wrap, IntKind.bits, IntKind.signed]
              have q99 : decide (6 < (zy - zx) % 4294967296) = false := decide_eq_false (by omega)
              have e6 := wrapI (m : Int) (by omega) (by omega)
              clear HNE c1'
              go_wp2_with fail
              refine wp_region_rb (T := EdT tb) [0, 1, 2, 3, 4, 5, 6, 7, 8, 9, 10, 11, 12, 13, 14, 15, 16, 17, 18, 19, 20, 21, 22, 23, 24, 25, 26, 27, 28, 29, 30, 31, 32, 33, 34, 35, 36] [] 0 (EdS w4 tb) (by kernel_rfl) (by kernel_rfl) EdS.next ⟨HS.out.1.drew, HS.out.2.keepC (Keeps.refl (fun _ => False) _).drew id (fun _ _ h => h.elim)⟩ ?_
              simp only [opsOf, List.filterMap_cons, List.filterMap_nil, List.getElem?_cons_zero, List.getElem?_cons_succ]
              iterate 7 (refine seqT_run (EdT.refl _) (v := ?_) rfl (fun u hu => ?_) ?_; rotate_left; (focus (have d7 := cell_of (hu.1.get (HU4.out.get HW.out.1 id) (by omega)); have dO := cell_keeps hu.1 hgl hgt.1 HOp.out; have dX := cell_keeps hu.1 hal hgt.2 HX.out; have dY := cell_keeps hu.1 hal hgt.2 HY.out; clear hu; go_simp; first | done | with_reducible rfl)); (try simp only [Act.put, List.setIfInBounds_toArray, List.set_cons_zero, List.set_cons_succ]))
              refine seqT_call (f := 11) (args := #[.pointer (some ⟨tb, 0, none⟩), .int .u8 yo]) (v := .bool (decide (3 ≤ km))) rfl (fun u hu => ?_) (fun u hu => (hEnd.out u hu.2).mono fun e w' h => ⟨h.1, h.2.1, fun _ => .inr h.2.2⟩) ?_
              · clear hu
                go_simp
              simp only [Act.put, List.setIfInBounds_toArray, List.set_cons_zero, List.set_cons_succ, q84]
              repeat (first
                | (refine seqT_run (EdT.refl _) (v := ?_) rfl (fun u hu => ?_) ?_; rotate_left; (focus (have d7 := cell_of (hu.1.get (HU4.out.get HW.out.1 id) (by omega)); have dO := cell_keeps hu.1 hgl hgt.1 HOp.out; have dX := cell_keeps hu.1 hal hgt.2 HX.out; have dY := cell_keeps hu.1 hal hgt.2 HY.out; clear hu; go_simp; first | done | with_reducible rfl)); (try simp only [Act.put, List.setIfInBounds_toArray, List.set_cons_zero, List.set_cons_succ]))
                | (refine seqT_no (EdT.refl _) rfl ?_; (try simp only [Act.put, List.setIfInBounds_toArray, List.set_cons_zero, List.set_cons_succ])))
              refine seqT_nil ?_
              refine tailT_zero fun u5 hu _ => ?_
              have HU5 := hidE hu
              clear hu
              go_wp2
              go_roundw
              case rel => exact ⟨(m + 1) + 1, by omega, by go_num, HU5.out⟩
              case measure => simp only [intOf]; omega
        · have p0 : decide ((j : Int) < (b.ins.length : Int)) = false := decide_eq_false (by omega)
          have d7 := cell_of (HS.out.1.get (HU4.out.get HW.out.1 id) (by omega))
          have hNtb : w.heap.size < tb := by have h1 := HK2.out.size; omega
          have dG := cell_of (HS.out.1.get (HU4.out.get HW.out.2 id) (by omega))
          have a4 := and_4 (ps : Int) (by omega) (by have := HG.out.st.hp; omega)
          have f1 : decide ((1 : Int) ≤ (b.fr.length : Int)) = true := decide_eq_true (by have := HEE.out.f1; omega)
          have f2 : decide ((b.fr.length : Int) ≤ 2) = true := decide_eq_true (by have := HEE.out.f2; omega)
          have hgp : s0[13]? = some (.int .u32 (ps : Nat)) := by
            have := HG.out.st.e9
            rw [Array.getElem?_extract] at this
            simpa [hsz] using this
          obtain ⟨_, g13⟩ := Array.getElem?_eq_some_iff.1 hgp
          have HKE := hidE (same_then (HK3.out.trans HU4.out) HS.out.1 (fun k hk => by omega))
          obtain ⟨Q, hQ1, hQ2⟩ : ∃ Q : Bool, ((ps : Int) / 4 % 2 * 4 == 0) = Q ∧ ((b.tb.length : Int) == 0) = Q := by
            by_cases h4 : ps / 4 % 2 = 0
            · exact ⟨true, beq_iff_eq.2 (by omega), beq_iff_eq.2 (by rw [HEE.out.tb.1 h4]; rfl)⟩
            · refine ⟨false, beq_eq_false_iff_ne.2 (by omega), beq_eq_false_iff_ne.2 (fun e => h4 (HEE.out.tb.2 (List.length_eq_zero_iff.1 (by omega))))⟩
          have hQ3 : (b.tb.length == 0) = Q := by rw [← hQ2]; exact Bool.eq_iff_iff.2 (by simp)
          clear hgp
          go_wp2_with fail
          refine (works_any _).mono ?_
          rintro _ w6 ⟨rfl, hk6⟩
          have HK6 := hidE (HKE.out.trans hk6)
          clear hk6
          go_wp2
          go_ret
          exact ⟨rfl, HK6.out⟩
  · obtain rfl : b = bl0 := HEn.out.1 hc
    have q1 : (zc != 0) = true := by simpa using hc
    simp only [bl0, List.length_nil]
    go_wp2_with fail
    refine (same_0 pi pa pf pt ci ca cf ct _).mono ?_
    rintro _ w3 ⟨rfl, hk3⟩
    have HK3 := hidE (((HK2.out.alloc _).alloc _).trans hk3)
    clear hk3
    go_wp2_with fail
    refine (works_any _).mono ?_
    rintro _ w4 ⟨rfl, hk4⟩
    have HK4 := hidE (HK3.out.trans hk4)
    clear hk4
    go_wp2
    go_ret
    exact ⟨rfl, HK4.out⟩
end Go.Proofs.Ytjkjnomhggmplaa
