/- The walk of ScanHangs: what is laid in a frame that is neither one of a block's nor of its tables' leaves all its instructions as they are. -/
import Derived.Test.YtjkjnomhggmplaaCmp
namespace Go.Proofs.Ytjkjnomhggmplaa
open Go.RowKit
attribute [local go_sem ↓] Go.wp_at_zero Go.wp_at_succ
attribute [local go_sem ↓] x_ldG x_ldSt x_neIn x_ldIn

set_option maxRecDepth 100000 in
theorem two_open {w : World} {S : Array Value} (h : RdV Try.prog w 54 S.toList) : ∃ a b : Nat, S = #[.int .u32 a, .int .u32 b] ∧ a < 4294967296 ∧ b < 4294967296 := by
  obtain ⟨h1, h2⟩ := h.array Try.underlying54
  rw [show Try.prog.cellsOf 54 = 2 from by kernel_rfl] at h1
  have g0 := h2 0 (by omega)
  have g1 := h2 1 (by omega)
  rw [show Try.prog.cellsOf 25 = 1 from by kernel_rfl] at g0 g1
  obtain ⟨a, ea, ha⟩ := u32_open g0
  obtain ⟨b, eb, hb⟩ := u32_open g1
  refine ⟨a, b, ?_, ha, hb⟩
  obtain ⟨l⟩ := S
  match l, h1 with
  | [x, y], _ =>
    have ea : [x] = _ := ea
    have eb : [y] = _ := eb
    cases ea
    cases eb
    rfl
theorem BlW.keepF {F : Nat → Prop} {w w' : World} {B : Nat} {vi va vf vt : Value} {b : Bl} (h : BlW w B vi va vf vt b) (k : Keeps F w w') (hF : ∀ g, B ≤ g → ¬ F g) : BlW w' B vi va vf vt b :=
  ⟨owns_keeps h.ri k hF, owns_keeps h.ra k hF, owns_keeps h.rf k hF, owns_keeps h.rt k hF, h.ft⟩
theorem Keeps.wid {F : Nat → Prop} {w w' : World} (h : Same w w') : Keeps F w w' := ⟨h.os, h.tape, h.output, h.size, fun k hk _ => h.block k hk id⟩
set_option maxRecDepth 100000 in
set_option maxHeartbeats 4000000 in
theorem scanHangs_walk (w : World) (s0 : Array Value) (h0 : RdV Try.prog w 31 s0.toList) (x1 : Int) (h1 : RdV Try.prog w 5 [.int .u8 x1]) (s2 : Array Value) (h2 : RdV Try.prog w 54 s2.toList) :
    Calls Try.prog 5 #[.agg s0, .int .u8 x1, .agg s2] w fun e w' => e = .returned (.bool true) ∧ Below w.heap.size w w' := by
  obtain ⟨fr, ia, il, ic, X, ca, cl, cc, Y, en, root, ps, pc, hG⟩ := guest_open h0
  obtain ⟨x, e, m0, m1⟩ := h1.int (k := .u8) Try.underlying5
  simp only [List.cons.injEq, Value.int.injEq, true_and, and_true] at e
  subst e
  obtain ⟨a0, a1, rfl, b0, b1⟩ := two_open h2
  simp [IntKind.min, IntKind.max, IntKind.bits, IntKind.signed] at m0 m1
  refine Calls.mono (R := fun e w' => e = .returned (.bool true) ∧ Same w w') ?_ (fun e w' h => ⟨h.1, same_below h.2⟩)
  have hsz := hG.size
  have HG := hidE hG
  clear h0 h1 h2 hG
  obtain ⟨P, hP⟩ : ∃ P : Nat, x1 % 40 = (P : Int) := ⟨(x1 % 40).toNat, by omega⟩
  have t1 : x1.tmod 40 = (P : Int) := by rw [Int.tmod_eq_emod_of_nonneg m0, hP]
  have P40 : P < 40 := by omega
  have u1 : IntKind.u8.wrap (P : Int) = (P : Int) := by simp [IntKind.wrap, IntKind.bits, IntKind.signed]; omega
  have u3 := wrapI (P : Int) (by omega) (by omega)
  obtain ⟨y, hy⟩ : ∃ y : Nat, y = a1 % 256 := ⟨_, rfl⟩
  have y1 : y < 256 := by omega
  have u4 : IntKind.u8.wrap (a1 : Int) = (y : Int) := by simp [IntKind.wrap, IntKind.bits, IntKind.signed]; omega
  clear hP hy
  go_enter Try.func5, Try.ntmps5
  have hld := ld_G (w := (w.alloc (.cells s0 31)).alloc (.cells #[.int .u32 (a0 : Nat), .int .u32 (a1 : Nat)] 54)) (block_old _ (block_new _ _)) hsz
  go_wp2_with fail
  refine (made_new (HG.out.same (((Keeps.refl _ _).alloc _).alloc _))).mono ?_
  rintro _ w1 ⟨R, M, g, rfl, hR, hk1, hRA, -⟩
  have hRA : w.heap.size + 2 ≤ R.A := by simpa using hRA
  have hAl := lt_of_block hR.hA
  have B1 := hidE (hk1.get (block_old (.cells #[.int .u32 (a0 : Nat), .int .u32 (a1 : Nat)] 54) (block_new w (.cells s0 31))) id)
  have X1 := hidE (hk1.get (block_atR (.cells #[.int .u32 (a0 : Nat), .int .u32 (a1 : Nat)] 54) (by simp : (w.alloc (.cells s0 31)).heap.size = w.heap.size + 1)) id)
  have HK1 := hidE ((((Keeps.refl (fun _ => False) w).alloc (.cells s0 31)).alloc (.cells #[.int .u32 (a0 : Nat), .int .u32 (a1 : Nat)] 54)).trans hk1)
  obtain ⟨L, hL⟩ : ∃ L, L = 64 * R.n := ⟨_, rfl⟩
  have L1 : 64 ≤ L := by have := hR.n1; omega
  have L2 : L ≤ 32768 := by have := hR.n2; omega
  rw [← hL]
  obtain ⟨o, ho⟩ : ∃ o : Nat, o = a0 % L := ⟨_, rfl⟩
  have oL : o < L := by rw [ho]; exact Nat.mod_lt _ (by omega)
  have e0 : (a0 : Int).tmod (L : Int) = (o : Int) := by rw [Int.tmod_eq_emod_of_nonneg (by omega), ho]; exact (Int.natCast_emod a0 L).symm
  obtain ⟨q, hq⟩ : ∃ q : Nat, q = o / 64 := ⟨_, rfl⟩
  have e1 : (o : Int).tdiv 64 = (q : Int) := by rw [Int.tdiv_eq_ediv_of_nonneg (by omega)]; omega
  have e2 : IntKind.u32.wrap (L : Int) = (L : Int) := by simp [IntKind.wrap, IntKind.bits, IntKind.signed]; omega
  have e3 : IntKind.u32.wrap (o : Int) = (o : Int) := by simp [IntKind.wrap, IntKind.bits, IntKind.signed]; omega
  have e4 : IntKind.u32.wrap (q : Int) = (q : Int) := by simp [IntKind.wrap, IntKind.bits, IntKind.signed]; omega
  have e5 := wrapI (q : Int) (by omega) (by omega)
  have e6 : ¬ (L : Int) = 0 := by omega
  have e7 : ¬ L = 0 := by omega
  have HQ := hidE (And.intro hq (And.intro ho hL))
  have HR := hidE hR
  clear hk1 hld ho hq
  have B2 := hidE (block_old (.cells #[.slice (some ⟨g, 0, none⟩) L L] 34) B1.out)
  have X2 := hidE (block_old (.cells #[.slice (some ⟨g, 0, none⟩) L L] 34) X1.out)
  have M2 := hidE (block_new w1 (.cells #[.slice (some ⟨g, 0, none⟩) L L] 34))
  have hld := ld_StateAt B2.out hsz
  have hR2 := hR.same ((Keeps.refl (fun _ => False) w1).alloc (.cells #[.slice (some ⟨g, 0, none⟩) L L] 34))
  have HR2 := hidE hR2
  have HSc := hidE (scan_any _ hR2 _ root ps pc HG.out.st (P : Int) (by omega) (by omega))
  have HE := hidE (scanL_ends hR root ps pc (P : Int) HG.out.st.hc)
  have HH := hidE (fun (x : Int) h1 h2 h3 => scanL_hang (R := R) (M := M) (M' := R.put M o [x]) (root := root) (ps := ps) (pc := pc) (q := q) (most := (P : Int)) (by rw [HQ.out.1]; exact barQ_put hR (by omega) x) h1 h2 h3)
  clear hR hR2 hL
  generalize scanL R M root ps pc (P : Int) = Z at *
  go_wp2_with fail
  refine HSc.out.mono ?_
  rintro _ w2 ⟨vi, va, vf, vt, rfl, hB, hk2⟩
  obtain ⟨zc, za, b⟩ := Z
  simp only at hB HE HH
  have hla : b.at_.length = b.ins.length := by
    by_cases hz : zc = 0
    · exact (HE.out.2 hz).la
    · rw [HE.out.1 hz]; rfl
  have n1 : b.ins.length ≤ 32 := by
    by_cases hz : zc = 0
    · exact (HE.out.2 hz).n2
    · rw [HE.out.1 hz]; simp [bl0]
  have nF : b.fr.length ≤ 2 := by
    by_cases hz : zc = 0
    · exact (HE.out.2 hz).f2
    · rw [HE.out.1 hz]; simp [bl0]
  have hs2 := hk2.size
  simp only [World.size_alloc] at hs2
  have HB := hidE hB
  have HK2 := hidE ((HK1.out.alloc (.cells #[.slice (some ⟨g, 0, none⟩) L L] 34)).trans hk2)
  have B3 := hidE (hk2.get B2.out id)
  have X3 := hidE (hk2.get X2.out id)
  have M3 := hidE (hk2.get M2.out id)
  have HR3 := hidE (HR2.out.same hk2)
  clear hk2 hld
  simp only [blA, flV]
  obtain ⟨pi, ci, rfl⟩ := owns_sl hB.ri
  obtain ⟨pa, ca, rfl⟩ := owns_sl hB.ra
  obtain ⟨pf, cf, rfl⟩ := owns_sl hB.rf
  obtain ⟨pt, ct, rfl⟩ := owns_sl hB.rt
  clear hB
  rw [hla]
  have kA : Same w2 ((w2.alloc (.cells #[.slice pi b.ins.length ci, .slice pa b.ins.length ca, .int .u32 (b.next : Nat), .int .u32 (b.to : Nat), .int .i64 b.en, .slice pf b.fr.length cf, .slice pt b.tb.length ct] 40)).alloc (.cells #[.int .i64 zc, .int .u32 (za : Nat)] 42)) := ((Keeps.refl _ _).alloc _).alloc _
  have hA1 := block_old (.cells #[.int .i64 zc, .int .u32 (za : Nat)] 42) (block_new w2 (.cells #[.slice pi b.ins.length ci, .slice pa b.ins.length ca, .int .u32 (b.next : Nat), .int .u32 (b.to : Nat), .int .i64 b.en, .slice pf b.fr.length cf, .slice pt b.tb.length ct] 40))
  have hA2 := block_atR (.cells #[.int .i64 zc, .int .u32 (za : Nat)] 42) (by simp : (w2.alloc (.cells #[.slice pi b.ins.length ci, .slice pa b.ins.length ca, .int .u32 (b.next : Nat), .int .u32 (b.to : Nat), .int .i64 b.en, .slice pf b.fr.length cf, .slice pt b.tb.length ct] 40)).heap.size = w2.heap.size + 1)
  have HA := hidE (And.intro hA1 hA2)
  have HKA := hidE kA
  have cX := cell_of (kA.get X3.out id)
  have cM := cell_of (kA.get M3.out id)
  have HBx := hidE (fun u (k : Keeps (fun j => j = R.A) ((w2.alloc (.cells #[.slice pi b.ins.length ci, .slice pa b.ins.length ca, .int .u32 (b.next : Nat), .int .u32 (b.to : Nat), .int .i64 b.en, .slice pf b.fr.length cf, .slice pt b.tb.length ct] 40)).alloc (.cells #[.int .i64 zc, .int .u32 (za : Nat)] 42)) u) => (HB.out.keepF (Keeps.wid kA) (F := fun j => j = R.A) (fun j hj => by simp only [World.size_alloc] at hj; omega)).keepF k (fun j hj => by simp only [World.size_alloc] at hj; omega))
  clear kA hA1 hA2
  go_wp2_with fail
  clear cX cM
  go_loopw [12] (fun t12 wr => ∃ j : Nat, j ≤ b.fr.length ∧ t12 = .int .i64 j ∧ (∀ (i : Nat) (x : Int), i < j → b.fr[i]? = some x → x ≠ (q : Int)) ∧ Same ((w2.alloc (.cells #[.slice pi b.ins.length ci, .slice pa b.ins.length ca, .int .u32 (b.next : Nat), .int .u32 (b.to : Nat), .int .i64 b.en, .slice pf b.fr.length cf, .slice pt b.tb.length ct] 40)).alloc (.cells #[.int .i64 zc, .int .u32 (za : Nat)] 42)) wr) (fun t12 _ => b.fr.length - (intOf t12).toNat)
  case atStart => exact ⟨0, by omega, rfl, fun i x h => by omega, Keeps.refl _ _⟩
  case round =>
    obtain ⟨j, hj, rfl, hN, hS⟩ := hrel
    have HS := hidE hS
    have HN := hidE hN
    have e8 := wrapI ((j : Int) + 1) (by omega) (by omega)
    have r1 := cell_of (hS.get HA.out.1 id)
    clear hS hN
    by_cases hlt : j < b.fr.length
    · have p0 : decide ((j : Int) < (b.fr.length : Int)) = true := decide_eq_true (by omega)
      obtain ⟨gf, _, hv, -, -, -, -, hf⟩ := rowI_get (HBx.out _ (Keeps.wid HS.out)).rf hlt
      obtain rfl : pf = some ⟨gf, 0, none⟩ := by cases hv; rfl
      have f1 := hf j hlt
      have hNj := hidE (fun (x : Int) (hx : b.fr[j]? = some x) => (by rw [List.getElem?_eq_getElem hlt] at hx; exact (Option.some.inj hx).symm : x = b.fr[j]))
      clear hv hf
      by_cases hy : b.fr[j] = (q : Int)
      · rw [hy] at f1
        clear hNj
        go_wp2_with fail
        refine (works_any _).mono ?_
        rintro _ w4 ⟨rfl, hk4⟩
        have HK4 := hidE hk4
        clear hk4 r1 f1
        go_wp2
        go_ret
        exact ⟨rfl, HK2.out.trans (HKA.out.trans (HS.out.trans HK4.out))⟩
      · have HY := hidE hy
        have e9 : (b.fr[j] == (q : Int)) = false := beq_eq_false_iff_ne.2 hy
        clear hy
        generalize b.fr[j] = y at *
        go_wp2_with fail
        clear r1 f1
        go_roundw
        case rel =>
          refine ⟨j + 1, by omega, by go_num, fun i x hi hx => ?_, HS.out⟩
          by_cases hij : i < j
          · exact HN.out i x hij hx
          · obtain rfl : i = j := by omega
            rw [hNj.out x hx]
            exact HY.out
        case measure => simp only [intOf]; omega
    · have p0 : decide ((j : Int) < (b.fr.length : Int)) = false := decide_eq_false (by omega)
      have HNF := hidE (show (q : Int) ∉ b.fr from fun hm => by
        obtain ⟨i, hi, he⟩ := List.getElem_of_mem hm
        exact HN.out i _ (by omega) (List.getElem?_eq_getElem hi) he)
      rename_i wF
      go_wp2_with fail
      clear r1
      go_loopw [13] (fun t13 wr => ∃ j : Nat, j ≤ b.tb.length ∧ t13 = .int .i64 j ∧ (∀ (i : Nat) (x : Int), i < j → b.tb[i]? = some x → x ≠ (q : Int)) ∧ Same ((w2.alloc (.cells #[.slice pi b.ins.length ci, .slice pa b.ins.length ca, .int .u32 (b.next : Nat), .int .u32 (b.to : Nat), .int .i64 b.en, .slice pf b.fr.length cf, .slice pt b.tb.length ct] 40)).alloc (.cells #[.int .i64 zc, .int .u32 (za : Nat)] 42)) wr) (fun t13 _ => b.tb.length - (intOf t13).toNat)
      case atStart => exact ⟨0, by omega, rfl, fun i x h => by omega, HS.out⟩
      case round =>
        clear HN HS
        obtain ⟨m, hm, rfl, hN, hS⟩ := hrel
        have HS := hidE hS
        have HN := hidE hN
        have r1 := cell_of (hS.get HA.out.1 id)
        clear hS hN e8
        by_cases hlt2 : m < b.tb.length
        · have p1 : decide ((m : Int) < (b.tb.length : Int)) = true := decide_eq_true (by omega)
          obtain ⟨gf, cp, hv, hc1, hc2, -, -, hf⟩ := rowI_get (HBx.out _ (Keeps.wid HS.out)).rt hlt2
          obtain rfl : pt = some ⟨gf, 0, none⟩ := by cases hv; rfl
          have hmx : maxLen ≤ 9223372036854775807 := by decide
          have e8 := wrapI ((m : Int) + 1) (by omega) (by omega)
          have f1 := hf m hlt2
          have hNj := hidE (fun (x : Int) (hx : b.tb[m]? = some x) => (by rw [List.getElem?_eq_getElem hlt2] at hx; exact (Option.some.inj hx).symm : x = b.tb[m]))
          clear hv hf hc1 hc2 hmx
          by_cases hy : b.tb[m] = (q : Int)
          · rw [hy] at f1
            clear hNj
            go_wp2_with fail
            refine (works_any _).mono ?_
            rintro _ w4 ⟨rfl, hk4⟩
            have HK4 := hidE hk4
            clear hk4 r1 f1
            go_wp2
            go_ret
            exact ⟨rfl, HK2.out.trans (HKA.out.trans (HS.out.trans HK4.out))⟩
          · have HY := hidE hy
            have e9 : (b.tb[m] == (q : Int)) = false := beq_eq_false_iff_ne.2 hy
            clear hy
            generalize b.tb[m] = y at *
            go_wp2_with fail
            clear r1 f1
            go_roundw
            case rel =>
              refine ⟨m + 1, by omega, by go_num, fun i x hi hx => ?_, HS.out⟩
              by_cases hij : i < m
              · exact HN.out i x hij hx
              · obtain rfl : i = m := by omega
                rw [hNj.out x hx]
                exact HY.out
            case measure => simp only [intOf]; omega
        · have p1 : decide ((m : Int) < (b.tb.length : Int)) = false := decide_eq_false (by omega)
          have HNT := hidE (show (q : Int) ∉ b.tb from fun hm => by
            obtain ⟨i, hi, he⟩ := List.getElem_of_mem hm
            exact HN.out i _ (by omega) (List.getElem?_eq_getElem hi) he)
          have r2 := cell_of (HS.out.get HA.out.2 id)
          have cX := cell_of (HS.out.get (HKA.out.get X3.out id) id)
          rename_i wT
          by_cases hz : zc = 0
          · subst hz
            go_wp2_with fail
            refine (setByte_ram _ (HR3.out.same (HKA.out.trans HS.out)) o (y : Int) (by omega) (by omega) (by omega)).mono ?_
            intro e w5 hp
            unfold PutPost at hp
            rw [if_pos ⟨by simp, by have := HQ.out.2.2; simp only [List.length_cons, List.length_nil]; omega⟩] at hp
            obtain ⟨rfl, hR5, hk5⟩ := hp
            clear r1 r2 cX
            have HK5 := hidE ((Keeps.wid HS.out (F := fun j => j = R.A)).trans hk5)
            have HKS := hidE (same_then (HK2.out.trans HKA.out) HK5.out (fun k hk => by omega))
            have B5 := hidE (HK5.out.get (HKA.out.get B3.out id) (by omega))
            have A5 := hidE (And.intro (HK5.out.get HA.out.1 (by omega)) (HK5.out.get HA.out.2 (by omega)))
            have hld := ld_StateAt B5.out hsz
            have HSd := hidE (scan_any w5 hR5 _ root ps pc HG.out.st (P : Int) (by omega) (by omega))
            have HE2 := hidE (scanL_ends hR5 root ps pc (P : Int) HG.out.st.hc)
            have HL := hidE (HH.out (y : Int) trivial HNF.out HNT.out)
            clear hR5 hk5
            generalize scanL R (R.put M o [(y : Int)]) root ps pc (P : Int) = Z2 at *
            go_wp2_with fail
            refine HSd.out.mono ?_
            rintro _ w3 ⟨wi, wa, wf, wt, rfl, hD, hk3⟩
            obtain ⟨yc, ya, d⟩ := Z2
            obtain ⟨hL1, hL2, hL3, -, hL5⟩ := HL.out
            simp only at hD HE2 hL1 hL2 hL3 hL5
            subst hL1
            have HL2 := hidE hL2
            have HL3 := hidE hL3
            have HD := hidE hD
            clear HL hL2 hL3 hld
            simp only [blA, flV]
            obtain ⟨qi, di, rfl⟩ := owns_sl hD.ri
            obtain ⟨qa, da, rfl⟩ := owns_sl hD.ra
            obtain ⟨qf, df, rfl⟩ := owns_sl hD.rf
            obtain ⟨qt, dt, rfl⟩ := owns_sl hD.rt
            clear hD
            rw [hL5]
            have kD : Same w3 ((w3.alloc (.cells #[.slice qi d.ins.length di, .slice qa d.ins.length da, .int .u32 (d.next : Nat), .int .u32 (d.to : Nat), .int .i64 d.en, .slice qf d.fr.length df, .slice qt d.tb.length dt] 40)).alloc (.cells #[.int .i64 0, .int .u32 (ya : Nat)] 42)) := ((Keeps.refl _ _).alloc _).alloc _
            have d1 := kD.get (hk3.get A5.out.1 id) id
            have d3 := block_old (.cells #[.int .i64 0, .int .u32 (ya : Nat)] 42) (block_new w3 (.cells #[.slice qi d.ins.length di, .slice qa d.ins.length da, .int .u32 (d.next : Nat), .int .u32 (d.to : Nat), .int .i64 d.en, .slice qf d.fr.length df, .slice qt d.tb.length dt] 40))
            have d4 := block_atR (.cells #[.int .i64 0, .int .u32 (ya : Nat)] 42) (by simp : (w3.alloc (.cells #[.slice qi d.ins.length di, .slice qa d.ins.length da, .int .u32 (d.next : Nat), .int .u32 (d.to : Nat), .int .i64 d.en, .slice qf d.fr.length df, .slice qt d.tb.length dt] 40)).heap.size = w3.heap.size + 1)
            have HW := hidE (And.intro d1 d3)
            have HKD := hidE kD
            have HK3 := hidE (HKS.out.trans (hk3.trans kD))
            have HKB := hidE (HK5.out.trans (Keeps.wid (hk3.trans kD)))
            have c1 := cell_of d1
            have c3 := cell_of d3
            have c4 := cell_of d4
            have hle := HL2.out.length_le
            have q1 : decide (d.ins.length < b.ins.length) = false := decide_eq_false (by omega)
            have q1' : decide ((d.ins.length : Int) < (b.ins.length : Int)) = false := decide_eq_false (by omega)
            have n2 : d.ins.length ≤ 32 := (HE2.out.2 rfl).n2
            clear kD hk3 d1 d3 d4
            go_wp2_with fail
            clear c1 c3 c4
            go_loopw [16] (fun t16 wr => ∃ j : Nat, j ≤ b.ins.length ∧ t16 = .int .i64 j ∧ Same ((w3.alloc (.cells #[.slice qi d.ins.length di, .slice qa d.ins.length da, .int .u32 (d.next : Nat), .int .u32 (d.to : Nat), .int .i64 d.en, .slice qf d.fr.length df, .slice qt d.tb.length dt] 40)).alloc (.cells #[.int .i64 0, .int .u32 (ya : Nat)] 42)) wr) (fun t16 _ => b.ins.length - (intOf t16).toNat)
            case atStart => exact ⟨0, by omega, rfl, Keeps.refl _ _⟩
            case round =>
              clear HS HN hj hm
              obtain ⟨j, hj, rfl, hS⟩ := hrel
              have HS := hidE hS
              have e8 := wrapI ((j : Int) + 1) (by omega) (by omega)
              have HV := hidE (And.intro (hS.get HW.out.1 id) (hS.get HW.out.2 id))
              have r1 := cell_of HV.out.1
              clear hS
              by_cases hlt3 : j < b.ins.length
              · have p2 : decide ((j : Int) < (b.ins.length : Int)) = true := decide_eq_true (by omega)
                have hlt4 : j < d.ins.length := by omega
                obtain ⟨gi, _, hv, -, -, -, hi1⟩ := rowN_get (HBx.out _ HKB.out).ri (by omega)
                obtain rfl : pi = some ⟨gi, 0, none⟩ := by cases hv; rfl
                obtain ⟨gj, _, hw, -, -, -, hi2⟩ := rowN_get HD.out.ri (by omega)
                obtain rfl : qi = some ⟨gj, 0, none⟩ := by cases hw; rfl
                obtain ⟨ga, _, hva, -, -, -, -, ha1⟩ := rowU_get (HBx.out _ HKB.out).ra (j := j) (by omega)
                obtain rfl : pa = some ⟨ga, 0, none⟩ := by cases hva; rfl
                obtain ⟨gb, _, hwa, -, -, -, -, ha2⟩ := rowU_get HD.out.ra (j := j) (by omega)
                obtain rfl : qa = some ⟨gb, 0, none⟩ := by cases hwa; rfl
                have i1 := hi1 j hlt3
                have i2 := hi2 j hlt4
                have a1 := ha1 j (by omega)
                have a2 := ha2 j (by omega)
                rw [← HL2.out.getElem hlt3] at i2
                rw [← HL3.out.getElem (by omega)] at a2
                generalize b.ins[j] = y at i1 i2
                generalize b.at_[j] = z at a1 a2
                obtain ⟨yo, ya, yb, yi⟩ := y
                simp only at i1 i2
                have I1 := hidE (And.intro HS.out i1)
                have I2 := hidE (And.intro (HKD.out.trans HS.out) i2)
                have A1 := hidE (cell_same HS.out a1)
                have A2 := hidE (cell_same (HKD.out.trans HS.out) a2)
                have ne := ne_In yo ya yb yi
                clear hv hw hva hwa hi1 hi2 ha1 ha2 i1 i2 a1 a2
                go_wp2_with fail
                clear r1
                refine wp_region_ra [0, 1, 2, 3, 4, 5, 6, 7, 8, 9, 10, 11, 12, 13, 14, 15, 16, 17, 18, 19, 20, 21, 22, 23] [] 0 (Same _) (by kernel_rfl) (by kernel_rfl) (fun u u' h k => Keeps.trans h k) (Keeps.refl _ _).drew ?_
                simp only [opsOf, List.filterMap_cons, List.filterMap_nil, List.getElem?_cons_zero, List.getElem?_cons_succ]
                repeat (first
                  | (refine seqV_run (v := ?_) rfl (fun u hu => ?_) ?_; rotate_left; (focus (have d7 := cell_of (hu.get HV.out.1 id); have d8 := cell_of (hu.get HV.out.2 id); have l1 := ld_InAt (cell_same (I1.out.1.trans hu) I1.out.2.1) (cell_same (I1.out.1.trans hu) I1.out.2.2.1) (cell_same (I1.out.1.trans hu) I1.out.2.2.2.1) (cell_same (I1.out.1.trans hu) I1.out.2.2.2.2); have l2 := ld_InAt (cell_same (I2.out.1.trans hu) I2.out.2.1) (cell_same (I2.out.1.trans hu) I2.out.2.2.1) (cell_same (I2.out.1.trans hu) I2.out.2.2.2.1) (cell_same (I2.out.1.trans hu) I2.out.2.2.2.2); have dA := cell_same hu A1.out; have dB := cell_same hu A2.out; clear hu; go_simp; first | done | with_reducible rfl)); (try simp only [Act.put, List.setIfInBounds_toArray, List.set_cons_zero, List.set_cons_succ]))
                  | (refine seqV_no rfl ?_; (try simp only [Act.put, List.setIfInBounds_toArray, List.set_cons_zero, List.set_cons_succ])))
                refine seqV_nil ?_
                refine tailR_zero fun u5 hu _ => ?_
                have HU5 := hidE hu
                clear hu
                go_wp2
                go_roundw
                case rel => exact ⟨j + 1, by omega, by go_num, HS.out.trans HU5.out⟩
                case measure => simp only [intOf]; omega
              · have p2 : decide ((j : Int) < (b.ins.length : Int)) = false := decide_eq_false (by omega)
                go_wp2_with fail
                refine (works_any _).mono ?_
                rintro _ w6 ⟨rfl, hk6⟩
                have HK6 := hidE hk6
                clear hk6 r1
                go_wp2
                go_ret
                exact ⟨rfl, HK3.out.trans (HS.out.trans HK6.out)⟩
          · have q2 : (zc != 0) = true := by simpa using hz
            go_wp2_with fail
            refine (works_any _).mono ?_
            rintro _ w4 ⟨rfl, hk4⟩
            have HK4 := hidE hk4
            clear hk4 r1 r2 cX
            go_wp2
            go_ret
            exact ⟨rfl, HK2.out.trans (HKA.out.trans (HS.out.trans HK4.out))⟩
end Go.Proofs.Ytjkjnomhggmplaa
