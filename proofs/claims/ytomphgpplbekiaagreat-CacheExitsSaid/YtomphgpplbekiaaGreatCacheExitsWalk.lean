/- The walk of the statement CacheExits. -/
import Derived.Test.YtomphgpplbekiaaGreatPa
namespace Go.Proofs.YtomphgpplbekiaaGreat
open Go.RowKit
attribute [local go_sem ↓] Go.wp_at_zero Go.wp_at_succ
attribute [local go_sem ↓] x_stKy x_stRw x_stLd x_stOu x_stRb x_stCd x_stBk x_stLk
attribute [local go_sem] st_Ky st_Rw st_Ld st_Ou st_Rb st_Cd st_Bk st_Lk ne_s1 en_s1 ne_s2 en_s2 ne_s3 en_s3 ne_s4 en_s4 ne_s5 en_s5 ne_s6 en_s6 ne_s7 en_s7 ne_s8 en_s8 lt_s2 lt_s3 lt_s4 lt_s5 lt_s6 lt_s7 lt_s8 rowAt_at rowAt_old rowAt_drew rowAt_drewN setRow_drew setRow_at setRow_old setRow_setRow rowAt_setRow_eq rowAt_setRow_ne cell_setRow_eq cell_setRow_ne frozen_setRow_eq frozen_setRow_ne ones_lit oc_int oc_bool oc_str oc_ptr oc_sl oc_map oc_fn oc_nf oc_ni oc_if
attribute [local go_sem ↓] x_neKy x_neRw x_neOu x_eqKy x_eqRw x_eqOu
attribute [local go_sem] ne_Ky ne_Rw ne_Ou eq_Ky eq_Rw eq_Ou
attribute [local go_sem ↓] x_ldSt
set_option maxRecDepth 100000 in
set_option maxHeartbeats 8000000 in
theorem cacheExits_any (w : World) (x : Int) (x0 : 0 ≤ x) (x1 : x < 256) (a : Option Addr) (len cap B : Nat) (hs : StepsOk w a len B) (hB : B * 8 ≤ 140737488355328) (_hc : len ≤ cap) (_hcap : cap ≤ maxLen) :
    Calls Tryz.prog 3 #[.int .u8 x, .slice a len cap] w fun e w' => e = .returned (.bool true) ∧ Same w w' := by
  have hmax : maxLen = 9223372036854775807 := rfl
  have HS := hidE hs
  clear hs
  go_enter Tryz.func3, Tryz.ntmps3
  go_wp2_with fail
  refine (made22 w x x0 x1).mono ?_
  rintro _ w1 ⟨R, M, cb, V, rb, rfl, hP, hk⟩
  have HQ1 : Hid (LoopQ w w1 cb rb R 0) := hidE ⟨M, V, _, [], [], 0, 0, hP, by simp, by omega, by omega⟩
  have HK1 := hidE hk
  clear hP hk
  go_wp2_with fail
  go_loopw [8] (fun t8 wr => ∃ k : Nat, t8 = .int .i64 (k : Int) ∧ k ≤ len ∧ k ≤ 40 ∧ LoopQ w wr cb rb R k ∧ Same w wr) (fun t8 _ => (40 - intOf t8).toNat)
  case atStart => exact ⟨0, rfl, by omega, by omega, HQ1.out, HK1.out⟩
  case round =>
    obtain ⟨k, rfl, hk1, hk2, hq, hw⟩ := hrel
    have HW := hidE hw
    obtain ⟨M, V, Vb, l, l', hi, mi, hP, hl, hh, hm⟩ := hq
    have HP := hidE hP
    clear hP hw HQ1 HK1
    by_cases hlt : k < len ∧ k < 40
    · have q0 : decide ((k : Int) < (len : Int)) = true := decide_eq_true (by omega)
      have q1 : (k : Int) < (len : Int) := by omega
      have q2 : decide ((k : Int) < 40) = true := decide_eq_true (by omega)
      have q3 : (0 : Int) ≤ (k : Int) := by omega
      have e1 := wrapI ((k : Int) + 1) (by omega) (by omega)
      obtain ⟨kd, n, k1, k2, b, xs, hso, hxl, g, o, rfl, hg, hcell⟩ := HS.out k hlt.1
      have hld := ld_at (P := Tryz.prog) (w := wr) (t := 38) (g := g) (o := o + k * 11) Tryz.underlying38 rfl infoSt (c := [.int .i64 kd, .int .i64 n, .int .u32 k1, .int .u32 k2, .slice b.ia b.n b.cn, .slice b.aa b.m b.cm, .int .u32 b.next, .int .u32 b.to, .int .i64 b.fin, b.fr, b.tb]) rfl (fun i v hv => by
        have := cell_same1 HW.out (hcell i v hv)
        rwa [← Nat.add_assoc] at this)
      have HC := hidE (step_loop HP.out HW.out hl hh hm (by omega) kd n k1 k2 b xs hso (by omega))
      simp only [stepA] at HC
      clear hcell hso
      go_wp2_with fail
      refine HC.out.mono ?_
      rintro _ w2 ⟨rfl, h1, h2⟩
      clear HC hld
      go_wp2_with fail
      exact ⟨⟨k + 1, by simp, by omega, by omega, h1, h2⟩, by simp only [intOf]; omega⟩
    · have hll : l.length ≤ 1000 := by omega
      have HKY := hidE (cs_keys HP.out.c (by omega))
      have hkl : (keysL l).length ≤ 1000 := by
        have := liveIdx_le l l.length
        simp only [keysL, List.length_map]
        omega
      have q0 : (decide ((k : Int) < (len : Int)) = true ∧ decide ((k : Int) < 40) = false ∧ (k : Int) < (len : Int) ∧ ¬ ((k : Int) < 40)) ∨ (decide ((k : Int) < (len : Int)) = false ∧ decide ((k : Int) < 40) = decide ((k : Int) < 40) ∧ ¬ ((k : Int) < (len : Int)) ∧ True) := by
        by_cases h9 : k < len
        · exact .inl ⟨decide_eq_true (by omega), decide_eq_false (by omega), by omega, by omega⟩
        · exact .inr ⟨decide_eq_false (by omega), rfl, by omega, trivial⟩
      rcases q0 with ⟨q0, q2, q1, q3⟩ | ⟨q0, -, q1, -⟩
      all_goals focus (
        go_wp2_with fail
        refine HKY.out.mono ?_
        rintro _ w2 ⟨kv, rfl, hkv, hk⟩
        obtain ⟨kp, kc, rfl⟩ := hkv.sl
        have HKV := hidE hkv
        have HP2 := hidE (HP.out.same hk)
        have HW2 := hidE (HW.out.trans hk)
        clear hkv hk HKY
        go_wp2_with fail
        go_loopw [10] (fun t10 wr2 => ∃ k2 : Nat, t10 = .int .i64 (k2 : Int) ∧ k2 ≤ (keysL l).length ∧ Same w2 wr2) (fun t10 _ => ((keysL l).length - intOf t10).toNat)
        case atStart => exact ⟨0, rfl, by omega, Keeps.refl _ _⟩
        case round =>
          obtain ⟨k2, rfl, hk2, hw2⟩ := hrel
          have HX := hidE hw2
          clear hw2
          by_cases hlt2 : k2 < (keysL l).length
          · have p0 : decide ((k2 : Int) < ((keysL l).length : Int)) = true := decide_eq_true (by omega)
            have p1 : (k2 : Int) < ((keysL l).length : Int) := by omega
            have p3 : (0 : Int) ≤ (k2 : Int) := by omega
            have e2 := wrapI ((k2 : Int) + 1) (by omega) (by omega)
            obtain ⟨c, hcq⟩ : ∃ c, (keysL l)[k2]? = some c := ⟨_, List.getElem?_eq_getElem hlt2⟩
            obtain ⟨j, y, hy, hyl, rfl, hex, hel⟩ := key_facts HP2.out hcq
            obtain ⟨g1, cap1, ee1, -, -, -, -, hc1, -⟩ := (HKV.out.keeps HX.out (fun _ _ => id)).at_ hcq
            cases ee1
            have a0 := hc1 0 _ rfl
            have a1 := hc1 1 _ rfl
            simp only [Nat.add_zero] at a0
            have A0 := hidE a0
            have A1 := hidE a1
            have HEX := hidE (cs_exits (HP2.out.same HX.out).c y.1.k1 y.1.k2 fun z hz => (HP2.out.asked z hz).2.2.2.1)
            rw [hex] at HEX
            have HEF := hidE (fun e he => exit_facts HP2.out hll hy hyl (e := e) he)
            have hel2 : ((exL y.1.rs).map (·.ex)).length = 1 ∨ ((exL y.1.rs).map (·.ex)).length = 2 := by simpa using hel
            generalize (exL y.1.rs).map (·.ex) = E at *
            clear hc1 hcq hex hel
            go_wp2_with fail
            refine HEX.out.mono ?_
            rintro _ w3 ⟨xv, rfl, hxv, hk3⟩
            obtain ⟨xp, xc, rfl⟩ := rowI_sl hxv
            have HXV := hidE hxv
            have HP3 := hidE (HP2.out.same (HX.out.trans hk3))
            have HW3 := hidE (HX.out.trans hk3)
            have A03 := hidE (cell_same1 hk3 A0.out)
            have A13 := hidE (cell_same1 hk3 A1.out)
            have r0 : decide (((E.length : Nat) : Int) < 1) = false := decide_eq_false (by omega)
            have r1 : decide (2 < ((E.length : Nat) : Int)) = false := decide_eq_false (by omega)
            clear hxv hk3 HEX A0 A1 a0 a1
            go_wp2_with fail
            go_loopw [12] (fun t12 wr3 => ∃ k3 : Nat, t12 = .int .i64 (k3 : Int) ∧ k3 ≤ E.length ∧ Same w3 wr3) (fun t12 _ => (E.length - intOf t12).toNat)
            case atStart => exact ⟨0, rfl, by omega, Keeps.refl _ _⟩
            case round =>
              obtain ⟨k3, rfl, hk3, hw3⟩ := hrel
              have HY := hidE hw3
              clear hw3
              by_cases hlt3 : k3 < E.length
              · have p5 : decide ((k3 : Int) < (E.length : Int)) = true := decide_eq_true (by omega)
                have p6 : (k3 : Int) < (E.length : Int) := by omega
                have p7 : (0 : Int) ≤ (k3 : Int) := by omega
                have e3 := wrapI ((k3 : Int) + 1) (by omega) (by omega)
                obtain ⟨e, heq⟩ : ∃ e, E[k3]? = some e := ⟨_, List.getElem?_eq_getElem hlt3⟩
                obtain ⟨o, lo, hg, off, pc, dn, hO, ho2, m0, m1, m2, hsum, ⟨lo0, lo1⟩, ⟨hg0, hg1⟩, hA, ee0, ee1⟩ := HEF.out e (List.mem_of_getElem? heq)
                obtain ⟨g3, c3, ex3, n3, n4, ec3⟩ := rowI_at (owns_apart HXV.out HY.out (fun _ _ => id)) heq
                cases ex3
                have EC := hidE ec3
                have A04 := hidE (cell_same1 HY.out A03.out)
                have A14 := hidE (cell_same1 HY.out A13.out)
                have HP4 := hidE (HP3.out.same HY.out)
                have HW4 := hidE HY.out
                have HCO := hidE (cs_out HP4.out.c e (by omega) (by omega) (HP4.out.own_ hll) (by omega) (out_bd HP4.out.asked))
                rw [hO] at HCO
                have HN2 := hidE HP.out.n8
                clear heq hO
                go_wp2_with fail
                refine HCO.out.mono ?_
                rintro _ w5 ⟨rfl, hk5⟩
                have k5 := hk5.alloc (.cells #[.int .u32 y.1.k1, .int .u32 y.1.k2, .int .i64 (o : Int), .int .u32 pc] 43)
                have HP5 := hidE (HP4.out.same k5)
                have HW5 := hidE (HW4.out.trans k5)
                have A05 := hidE (cell_same1 k5 A04.out)
                have A15 := hidE (cell_same1 k5 A14.out)
                have EC5 := hidE (cell_same1 k5 EC.out)
                have BO := hidE (block_new w5 (.cells #[.int .u32 y.1.k1, .int .u32 y.1.k2, .int .i64 (o : Int), .int .u32 pc] 43))
                have eU : IntKind.u32.wrap (o : Int) = (o : Int) := by
                  have := HN2.out
                  simp [IntKind.wrap, IntKind.bits, IntKind.signed]; omega
                have eU1 : IntKind.u32.wrap ((o : Int) + 1) = (o : Int) + 1 := by
                  have := HN2.out
                  simp [IntKind.wrap, IntKind.bits, IntKind.signed]; omega
                have eU2 : IntKind.u32.wrap ((o : Int) + 2) = (o : Int) + 2 := by
                  have := HN2.out
                  simp [IntKind.wrap, IntKind.bits, IntKind.signed]; omega
                clear hk5 k5 HCO ec3
                go_wp2_with fail
                obtain ⟨W5, hW5⟩ : ∃ W5, w5.alloc (.cells #[.int .u32 y.1.k1, .int .u32 y.1.k2, .int .i64 (o : Int), .int .u32 pc] 43) = W5 := ⟨_, rfl⟩
                rw [hW5] at HP5 HW5 A05 A15 EC5 BO ⊢
                clear hW5
                have hb0 := byte_ram W5 HP5.out.c.ram o (by have := HN2.out; omega)
                rw [if_pos (by omega), m0] at hb0
                have hb1 := byte_ram W5 HP5.out.c.ram (o + 1) (by have := HN2.out; omega)
                rw [if_pos (by omega), m1, show ((o + 1 : Nat) : Int) = (o : Int) + 1 from by omega] at hb1
                have hb2 := byte_ram W5 HP5.out.c.ram (o + 2) (by have := HN2.out; omega)
                rw [if_pos (by omega), m2, show ((o + 2 : Nat) : Int) = (o : Int) + 2 from by omega] at hb2
                have HB0 := hidE hb0
                have HB1 := hidE hb1
                have HB2 := hidE hb2
                have c5 := cell_of BO.out
                clear hb0 hb1 hb2
                refine HB0.out.mono ?_
                rintro _ w6 ⟨rfl, rfl⟩
                go_wp2_with fail
                refine HB1.out.mono ?_
                rintro _ w6 ⟨rfl, rfl⟩
                go_wp2_with fail
                refine HB2.out.mono ?_
                rintro _ w6 ⟨rfl, rfl⟩
                have s2 := same2_self y.1.k1 y.1.k2
                have z1 : ((113 : Int) != 113) = false := by simp
                have z2 : (lo + 256 * hg != e) = false := by simp [hsum]
                have w1' := wrapI (256 * hg) (by omega) (by omega)
                have w2' := wrapI (lo + 256 * hg) (by omega) (by omega)
                have w3' := wrapI lo (by omega) (by omega)
                have w4' := wrapI hg (by omega) (by omega)
                have z3 : (e != e) = false := by simp
                clear c5 HB0 HB1 HB2 eU eU1 eU2 hsum
                go_wp2_with fail
                refine wp_region_ra [0, 1, 2, 3, 4, 5, 6, 7, 8, 9, 10, 11, 12, 13, 14, 15, 16, 17, 18, 19, 20, 21, 22, 23, 24, 25, 26, 27, 28, 29, 30, 31] [] 0 (Same _) (by kernel_rfl) (by kernel_rfl) (fun u u' h k => Keeps.trans h k) (Keeps.refl _ _).drew ?_; simp only [opsOf, List.filterMap_cons, List.filterMap_nil, List.getElem?_cons_zero, List.getElem?_cons_succ]
                repeat (first | (refine seqV_run (v := ?_) rfl (fun u hu => ?_) ?_; rotate_left; (focus (have d0 := cell_of (hu.get BO.out id); have d1 := cell_same1 hu A05.out; have d2 := cell_same1 hu A15.out; have d3 := cell_same1 hu EC5.out; clear hu; go_simp; first | done | with_reducible rfl)); (try simp only [Act.put, List.setIfInBounds_toArray, List.set_cons_zero, List.set_cons_succ])) | (refine seqV_no rfl ?_; (try simp only [Act.put, List.setIfInBounds_toArray, List.set_cons_zero, List.set_cons_succ])))
                refine seqV_nil ?_
                refine tailR_zero fun u5 hu _ => ?_
                (try simp only [Act.put, List.setIfInBounds_toArray, List.set_cons_zero, List.set_cons_succ])
                have HP6 := hidE (HP5.out.same hu)
                have HW6 := hidE (HW5.out.trans hu)
                have A06 := hidE (cell_same1 hu A05.out)
                have A16 := hidE (cell_same1 hu A15.out)
                have EC6 := hidE (cell_same1 hu EC5.out)
                have BO6 := hidE (hu.get BO.out id)
                have HAT := hidE (pair_at HP6.out (o : Int) (by omega) (by have := HN2.out; omega) hll)
                rw [hA] at HAT
                have c6 := cell_of BO6.out
                clear hu hA A05 A15 EC5 BO HP5 HW5 A04 A14 EC HP4 HW4 HEF
                go_wp2_with fail
                refine HAT.out.mono ?_
                rintro _ w7 ⟨rfl, hk7⟩
                have k7 := (hk7.alloc (.cells #[.int .u32 y.1.k1, .int .u32 y.1.k2] 31)).alloc (.cells #[.int .i64 off, .int .u32 pc, .int .i64 dn, .int .i64 e] 49)
                have HP7 := hidE (HP6.out.same k7)
                have HW7 := hidE (HW6.out.trans k7)
                have A07 := hidE (cell_same1 k7 A06.out)
                have A17 := hidE (cell_same1 k7 A16.out)
                have EC7 := hidE (cell_same1 k7 EC6.out)
                have BO7 := hidE (k7.get BO6.out id)
                have BK := hidE (block_old (.cells #[.int .i64 off, .int .u32 pc, .int .i64 dn, .int .i64 e] 49) (block_new w7 (.cells #[.int .u32 y.1.k1, .int .u32 y.1.k2] 31)))
                have BR := hidE (block_atR (.cells #[.int .i64 off, .int .u32 pc, .int .i64 dn, .int .i64 e] 49) (by simp : (w7.alloc (.cells #[.int .u32 y.1.k1, .int .u32 y.1.k2] 31)).heap.size = w7.heap.size + 1))
                have z4 : (pc != pc) = false := by simp
                clear hk7 k7 c6 HAT A06 A16 EC6 BO6 HP6 HW6 z1 z2 w1' w2' w3' w4'
                go_wp2_with fail
                obtain ⟨W7, hW7⟩ : ∃ W7, (w7.alloc (.cells #[.int .u32 y.1.k1, .int .u32 y.1.k2] 31)).alloc (.cells #[.int .i64 off, .int .u32 pc, .int .i64 dn, .int .i64 e] 49) = W7 := ⟨_, rfl⟩
                rw [hW7] at HP7 HW7 A07 A17 EC7 BO7 BK BR ⊢
                clear hW7
                refine wp_region_ra [0, 1, 2, 3, 4, 5, 6, 7, 8, 9, 10, 11, 12, 13, 14, 15, 16, 17, 18, 19, 20, 21, 22, 23, 24, 25] [] 0 (Same _) (by kernel_rfl) (by kernel_rfl) (fun u u' h k => Keeps.trans h k) (Keeps.refl _ _).drew ?_; simp only [opsOf, List.filterMap_cons, List.filterMap_nil, List.getElem?_cons_zero, List.getElem?_cons_succ]
                repeat (first | (refine seqV_run (v := ?_) rfl (fun u hu => ?_) ?_; rotate_left; (focus (have d0 := cell_of (hu.get BO7.out id); have d1 := cell_same1 hu A07.out; have d2 := cell_same1 hu A17.out; have d3 := cell_same1 hu EC7.out; have d4 := cell_of (hu.get BK.out id); have d5 := cell_of (hu.get BR.out id); clear hu; go_simp; first | done | with_reducible rfl)); (try simp only [Act.put, List.setIfInBounds_toArray, List.set_cons_zero, List.set_cons_succ])) | (refine seqV_no rfl ?_; (try simp only [Act.put, List.setIfInBounds_toArray, List.set_cons_zero, List.set_cons_succ])))
                refine seqV_nil ?_
                refine tailR_zero fun u8 hu _ => ?_
                (try simp only [Act.put, List.setIfInBounds_toArray, List.set_cons_zero, List.set_cons_succ])
                have HW8 := hidE (HW7.out.trans hu)
                clear hu
                go_wp2_with fail
                exact ⟨⟨k3 + 1, by simp, by omega, HW8.out⟩, by simp only [intOf]; omega⟩
              · obtain rfl : k3 = E.length := by omega
                have p5 : decide ((E.length : Int) < (E.length : Int)) = false := by simp
                have HY2 := hidE (HW3.out.trans HY.out)
                go_wp2_with fail
                exact ⟨⟨k2 + 1, by simp, by omega, HY2.out⟩, by simp only [intOf]; omega⟩
          · obtain rfl : k2 = (keysL l).length := by omega
            have p0 : decide (((keysL l).length : Int) < ((keysL l).length : Int)) = false := by simp
            have HP9 := hidE (HP2.out.same HX.out)
            have HCO := hidE (cs_out HP9.out.c (-1) (by omega) (by omega) (HP9.out.own_ hll) (by omega) (out_bd HP9.out.asked))
            have hv : outV l (-1) = .tuple #[.agg outZ, .bool false] := outV_no (by unfold ownedL; rw [if_neg (by omega)])
            rw [hv] at HCO
            simp only [outZ] at HCO
            clear hv
            go_wp2_with fail
            refine HCO.out.mono ?_
            rintro _ w5 ⟨rfl, hk5⟩
            have HW5 := hidE ((HW2.out.trans (HX.out.trans hk5)).alloc (.cells #[.int .u32 0, .int .u32 0, .int .i64 0, .int .u32 0] 43))
            clear hk5 HCO
            go_wp2_with fail
            refine (works22 _).mono ?_
            rintro _ w6 ⟨rfl, hk6⟩
            have HW6 := hidE (HW5.out.trans hk6)
            clear hk6
            go_wp2
            go_ret
            exact ⟨rfl, HW6.out⟩)
theorem cacheExits_walk (w : World) (x0 : Int) (h0 : RdV Tryz.prog w 5 [.int .u8 x0]) (a1 : Option Addr) (l1 c1 : Nat) (h1 : RdV Tryz.prog w 22 [.slice a1 l1 c1]) (hz : RdZV (fun e len => len * Tryz.prog.bytesOf e ≤ reachBytes) Tryz.prog w 22 [.slice a1 l1 c1]) :
    Calls Tryz.prog 3 #[.int .u8 x0, .slice a1 l1 c1] w fun e w' => e = .returned (.bool true) ∧ Below w.heap.size w w' := by
  obtain ⟨x, e, p0, p1⟩ := h0.int (k := .u8) Tryz.underlying5
  simp at e
  subst e
  simp [IntKind.min, IntKind.max, IntKind.bits, IntKind.signed] at p0 p1
  have hb : Tryz.prog.bytesOf 3 = 8 := by kernel_rfl
  obtain ⟨hs, hc, hcap⟩ := steps_open (B := 17592186044416) (fun m hm => by rw [hb] at hm; simp only [reachBytes] at hm; omega) h1 hz
  exact (cacheExits_any w x0 (by omega) (by omega) a1 l1 c1 _ hs (by omega) hc hcap).mono fun e w' h => ⟨h.1, same_below h.2⟩
end Go.Proofs.YtomphgpplbekiaaGreat
