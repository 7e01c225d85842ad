/- The walk of the statement CacheLies. -/
import Derived.Test.YtomphgpplbekiaaGreatPa
import Derived.Test.YtomphgpplbekiaaGreatRt
namespace Go.Proofs.YtomphgpplbekiaaGreat
open Go.RowKit
attribute [local go_sem ↓] Go.wp_at_zero Go.wp_at_succ
theorem rowB_push {u : World} {B : Nat} {v : Value} {xs : List Int} (h : RowB u B v xs) (g : Nat) (y : Int) (hg : u.heap[g]? = some (.cells #[.int .u8 y] 5 (0, 0))) (hl : xs.length ≤ 1000000) (hB : B ≤ u.heap.size) :
    ∃ g' cap u', (Builtin.append_ #[57, 57] 57 #[v, .slice (some ⟨g, 0, none⟩) 1 1]).run Tryz.prog u = .ok (.slice (some ⟨g', 0, none⟩) (xs.length + 1) cap) u' ∧ RowB u' B (.slice (some ⟨g', 0, none⟩) (xs.length + 1) cap) (xs ++ [y]) ∧ Keeps (fun k => some k = v.ownBlock) u u' := by
  obtain ⟨i0, hi, hz0, hz1, hz2⟩ := infoS_of byteS_info
  obtain ⟨g', cap, u', hap, h5, h6, h7, h8⟩ := run_append_lies (P := Tryz.prog) (w := u) 57 57 B 5 i0 _ 1 1 Tryz.underlying57 hi hz0 hz1 hz2 rfl (by decide) v xs.length (xs.map (Value.int .u8)) h
    ⟨g, 0, none⟩ 1 1 [.int .u8 y] rfl (World.news_of_block hg) (by simp [Value.oneCell']) (by omega) (by simp [maxLen]; omega) (by omega) hB _ rfl
  exact ⟨g', cap, u', hap, by simpa [RowB] using h5, keeps_grown h6 fun k e => e.symm⟩
/-- Find, of a live block. -/
theorem pair_find_live {w0 w : World} {cb rb : Nat} {R : RamAt} {M : List Int} {V : CV} {Vb : Value} {l l' : List Fb} {hi mi : Int} (P : Pair w w0.heap.size cb rb R M V Vb l l' hi mi) (hh : 0 ≤ hi ∧ hi < 1000) (hm : 0 ≤ mi ∧ mi < 1000) (hll : l.length ≤ 1000) {j : Nat} {y : Fb} (hy : l'[j]? = some y) (hl : y.1.live = true) :
    Calls Tryz.prog 17 #[.pointer (some ⟨cb, 0, none⟩), .agg #[.int .u32 y.1.k1, .int .u32 y.1.k2]] w fun e w1 => e = .returned (.tuple #[.int .i64 y.1.pos, .bool true]) ∧ Pair w1 w0.heap.size cb rb R M V Vb l l' (hi + 1) mi ∧ Keeps (fun k => k = cb) w w1 := by
  refine (cs_find P.c ⟨by omega, by omega⟩ ⟨by omega, by omega⟩ (by omega) y.1.k1 y.1.k2).mono fun e w1 hp => ?_
  have hf : (pl l)[j]? = some y.1 := by rw [P.e, pl_get, hy]; rfl
  unfold FindPost at hp
  rw [idx_self P.inv.nd hf hl] at hp
  obtain ⟨x, hx, rfl, hI, hk⟩ := hp
  have hxy : x.1 = y.1 := by
    rw [pl_get, hx] at hf
    exact Option.some.inj hf
  have hru := ref_keeps P.c P.r P.s1 (hk.mono (G := fun g => Wr cb R V g) fun g _ hg => .inl hg) fun g hg => hg
  exact ⟨by rw [hxy], ⟨hI, hru, P.e, P.s1, P.s2, P.inv, P.lies, P.n8⟩, hk⟩
attribute [local go_sem ↓] x_stKy x_stRw x_stLd x_stOu x_stRb x_stCd x_stBk x_stLk
attribute [local go_sem] st_Ky st_Rw st_Ld st_Ou st_Rb st_Cd st_Bk st_Lk ne_s1 en_s1 ne_s2 en_s2 ne_s3 en_s3 ne_s4 en_s4 ne_s5 en_s5 ne_s6 en_s6 ne_s7 en_s7 ne_s8 en_s8 lt_s2 lt_s3 lt_s4 lt_s5 lt_s6 lt_s7 lt_s8 rowAt_at rowAt_old rowAt_drew rowAt_drewN setRow_drew setRow_at setRow_old setRow_setRow rowAt_setRow_eq rowAt_setRow_ne cell_setRow_eq cell_setRow_ne frozen_setRow_eq frozen_setRow_ne ones_lit oc_int oc_bool oc_str oc_ptr oc_sl oc_map oc_fn oc_nf oc_ni oc_if
attribute [local go_sem ↓] x_neKy x_neRw x_neOu x_eqKy x_eqRw x_eqOu
attribute [local go_sem] ne_Ky ne_Rw ne_Ou eq_Ky eq_Rw eq_Ou
attribute [local go_sem ↓] x_ldSt x_ldRb
set_option maxRecDepth 100000 in
set_option maxHeartbeats 8000000 in
theorem cacheLies_any (w : World) (x : Int) (x0 : 0 ≤ x) (x1 : x < 256) (a : Option Addr) (len cap B : Nat) (hs : StepsOk w a len B) (hB : B * 8 ≤ 140737488355328) (_hc : len ≤ cap) (_hcap : cap ≤ maxLen) :
    Calls Tryz.prog 4 #[.int .u8 x, .slice a len cap] w fun e w' => e = .returned (.bool true) ∧ Same w w' := by
  have hmax : maxLen = 9223372036854775807 := rfl
  have HS := hidE hs
  clear hs
  go_enter Tryz.func4, Tryz.ntmps4
  go_wp2_with fail
  refine (made22 w x x0 x1).mono ?_
  rintro _ w1 ⟨R, M, cb, V, rb, rfl, hP, hk⟩
  have HQ1 : Hid (LoopQ w w1 cb rb R 0) := hidE ⟨M, V, _, [], [], 0, 0, hP, by simp, by omega, by omega⟩
  have HK1 := hidE hk
  clear hP hk
  go_wp2_with fail
  go_loopw [8] (fun t8 wr => ∃ k : Nat, t8 = .int .i64 (k : Int) ∧ k ≤ len ∧ k ≤ 60 ∧ LoopQ w wr cb rb R k ∧ Same w wr) (fun t8 _ => (60 - intOf t8).toNat)
  case atStart => exact ⟨0, rfl, by omega, by omega, HQ1.out, HK1.out⟩
  case round =>
    obtain ⟨k, rfl, hk1, hk2, hq, hw⟩ := hrel
    have HW := hidE hw
    obtain ⟨M, V, Vb, l, l', hi, mi, hP, hl, hh, hm⟩ := hq
    have HP := hidE hP
    clear hP hw HQ1 HK1
    by_cases hlt : k < len ∧ k < 60
    · have q0 : decide ((k : Int) < (len : Int)) = true := decide_eq_true (by omega)
      have q1 : (k : Int) < (len : Int) := by omega
      have q2 : decide ((k : Int) < 60) = true := decide_eq_true (by omega)
      have q3 : (0 : Int) ≤ (k : Int) := by omega
      have e1 := wrapI ((k : Int) + 1) (by omega) (by omega)
      obtain ⟨kd, n, k1, k2, b, xs, hso, hxl, g, o, rfl, hg, hcell⟩ := HS.out k hlt.1
      have hld := ld_at (P := Tryz.prog) (w := wr) (t := 38) (g := g) (o := o + k * 11) Tryz.underlying38 rfl infoSt (c := [.int .i64 kd, .int .i64 n, .int .u32 k1, .int .u32 k2, .slice b.ia b.n b.cn, .slice b.aa b.m b.cm, .int .u32 b.next, .int .u32 b.to, .int .i64 b.fin, b.fr, b.tb]) rfl (fun i v hv => by
        have := cell_same1 HW.out (hcell i v hv)
        rwa [← Nat.add_assoc] at this)
      have HC := hidE (step_loop HP.out HW.out hl hh hm (by omega) kd n k1 k2 b xs hso (by omega))
      simp only [stepA] at HC
      clear hcell hso
      go_wp2_with fail
      refine HC.out.mono ?_
      rintro _ w2 ⟨rfl, h1, h2⟩
      clear HC hld
      go_wp2_with fail
      exact ⟨⟨k + 1, by simp, by omega, by omega, h1, h2⟩, by simp only [intOf]; omega⟩
    · have hll : l.length ≤ 1000 := by omega
      have hll' : l'.length ≤ 60 := by rw [← len_pl HP.out.e]; omega
      obtain ⟨rp, rc, ebl⟩ := HP.out.r.sl
      have hup := HP.out.inv.us
      have hn8 := HP.out.n8
      have q0 : (decide ((k : Int) < (len : Int)) = true ∧ decide ((k : Int) < 60) = false ∧ (k : Int) < (len : Int) ∧ ¬ ((k : Int) < 60)) ∨ (decide ((k : Int) < (len : Int)) = false ∧ decide ((k : Int) < 60) = decide ((k : Int) < 60) ∧ ¬ ((k : Int) < (len : Int)) ∧ True) := by
        by_cases h9 : k < len
        · exact .inl ⟨decide_eq_true (by omega), decide_eq_false (by omega), by omega, by omega⟩
        · exact .inr ⟨decide_eq_false (by omega), rfl, by omega, trivial⟩
      rcases q0 with ⟨q0, q2, q1, q3⟩ | ⟨q0, -, q1, -⟩
      all_goals focus (
        go_wp2_with fail
        go_loopw [9, 10] (fun t9 t10 wr => ∃ (n : Nat) (E hi' : Int), t10 = .int .i64 (n : Int) ∧ t9 = .int .i64 E ∧ n ≤ l'.length ∧ 0 ≤ E ∧ E ≤ ((usedL ((pl l).take n) : Nat) : Int) ∧ (0 ≤ hi' ∧ hi' ≤ (k : Int) + (n : Int)) ∧ Pair wr w.heap.size cb rb R M V Vb l l' hi' mi ∧ Same w wr) (fun _ t10 _ => (l'.length - intOf t10).toNat)
        case atStart => exact ⟨0, 0, hi, rfl, rfl, by omega, by omega, by simp [usedL], ⟨by omega, by omega⟩, HP.out, HW.out⟩
        case round =>
          obtain ⟨n, E, hi', rfl, rfl, hn, hE0, hE1, hhi, hPn, hwn⟩ := hrel
          have HPn := hidE hPn
          have HWn := hidE hwn
          clear hPn hwn HP HW
          have d0 := HPn.out.r.c 0
          simp only [refA, ebl] at d0
          have huse := usedL_end (pl l) n
          by_cases hlt2 : n < l'.length
          · have p0 : decide ((n : Int) < (l'.length : Int)) = true := decide_eq_true (by omega)
            have p1 : (n : Int) < (l'.length : Int) := by omega
            have p3 : (0 : Int) ≤ (n : Int) := by omega
            have e2 := wrapI ((n : Int) + 1) (by omega) (by omega)
            obtain ⟨y, hy⟩ : ∃ y, l'[n]? = some y := ⟨_, List.getElem?_eq_getElem hlt2⟩
            have hf : (pl l)[n]? = some y.1 := by rw [HPn.out.e, pl_get, hy]; rfl
            obtain ⟨hcode, hpos⟩ := HPn.out.inv.code n _ hf
            have hut := usedL_take hf
            obtain ⟨g, cap', e, n1, n2, hcc⟩ := HPn.out.r.bk hy
            rw [ebl] at e
            cases e
            obtain ⟨o1, o2, o3⟩ := (HPn.out.r.fb y (List.mem_of_getElem? hy)).ones
            obtain ⟨⟨B', hbow⟩, ⟨B2, hrow⟩, -, -⟩ := HPn.out.r.fb y (List.mem_of_getElem? hy)
            obtain ⟨yp, yc, erv⟩ := owns_slice hrow
            obtain ⟨bp, bc, ebv⟩ := owns_slice hbow
            have hld := ld_at (P := Tryz.prog) (w := wr) (t := 62) (g := g) (o := n * 8) Tryz.underlying62 rfl infoRb (c := fbR y) rfl hcc
            generalize hp : usedL ((pl l).take n) = p at *
            simp only [fbR, hpos, erv, ebv] at hld
            rw [erv] at o2
            rw [ebv] at o1
            have HR := hidE hrow
            have hlens := hcode.lens
            have huse2 := usedL_end (pl l) (n + 1)
            clear hcc hbow hrow
            cases hl : y.1.live with
            | false =>
              rw [hl] at hld
              have HPa := hidE (HPn.out.same ((Keeps.refl _ _).alloc (.cells #[.int .u32 y.1.k1, .int .u32 y.1.k2, .int .i64 (p : Int), .slice bp y.1.bs.length bc, .slice yp y.1.rs.length yc, y.2.fv, .int .i64 y.1.fin, .bool false] 62)))
              clear hy hf
              go_wp2_with fail
              exact ⟨⟨n + 1, E, hi', by simp, rfl, by omega, hE0, by omega, ⟨by omega, by omega⟩, HPa.out, HWn.out.alloc _⟩, by simp only [intOf]; omega⟩
            | true =>
              rw [hl] at hld
              have ka := (Keeps.refl (fun _ => False) wr).alloc (.cells #[.int .u32 y.1.k1, .int .u32 y.1.k2, .int .i64 (p : Int), .slice bp y.1.bs.length bc, .slice yp y.1.rs.length yc, y.2.fv, .int .i64 y.1.fin, .bool true] 62)
              have HPa := hidE (HPn.out.same ka)
              have B9 := hidE (block_new wr (.cells #[.int .u32 y.1.k1, .int .u32 y.1.k2, .int .i64 (p : Int), .slice bp y.1.bs.length bc, .slice yp y.1.rs.length yc, y.2.fv, .int .i64 y.1.fin, .bool true] 62))
              have HKa := hidE ka
              have hncb : wr.heap.size ≠ cb := fun e => by have := HPn.out.lt cb (.inl (.inl rfl)); omega
              have HFL := hidE (pair_find_live HPa.out (hi := hi') ⟨by omega, by omega⟩ ⟨by omega, by omega⟩ hll hy hl)
              rw [hpos] at HFL
              clear ka
              go_wp2_with fail
              refine HFL.out.mono ?_
              rintro _ w3 ⟨rfl, hP3, hk3⟩
              have B93 := hidE (hk3.get B9.out hncb)
              have c9 := cell_of B93.out
              have HP3 := hidE hP3
              have HW3 := hidE (wr_same HPa.out (HWn.out.trans HKa.out) hk3 fun g hg => .inl (.inl hg))
              have hRr := HP3.out.r.fb y (List.mem_of_getElem? hy)
              have HRR := hidE hRr.r
              rw [erv] at HRR
              clear hRr
              have z1 : decide ((p : Int) < E) = false := decide_eq_false (by omega)
              have z2 : ¬ ((p : Int) < E) := by omega
              have e3 := wrapI ((p : Int) + (y.1.bs.length : Int)) (by omega) (by omega)
              have HL := hidE (HP3.out.lies n _ hf)
              have hpt : y.1.pos.toNat = p := by rw [hpos]; omega
              rw [hpt] at HL
              clear hP3 hk3 HFL hld d0 HPn HPa HWn HKa B9 HR
              go_wp2_with fail
              have HW3' := hidE (Keeps.refl (fun _ => False) w3)
              have hz3 := lt_of_block B93.out
              go_loopw [14, 15] (fun t14 t15 wr => ∃ (i : Nat) (v : Value), t15 = .int .i64 ((p : Int) + (i : Int)) ∧ i ≤ y.1.bs.length ∧ t14 = v ∧ RowB wr w3.heap.size v (y.1.bs.take i) ∧ Same w3 wr) (fun _ t15 _ => ((p : Int) + (y.1.bs.length : Int) - intOf t15).toNat)
              case atStart => exact ⟨0, _, by simp, by omega, rfl, World.ownsRow_nil _ _ _ _, Keeps.refl _ _⟩
              case round =>
                obtain ⟨i, v, rfl, hi2, rfl, hv, hs3⟩ := hrel
                have HV := hidE hv
                have HS3 := hidE hs3
                have hlt' : (y.1.bs.take i).length = i := by simp; omega
                obtain ⟨vp, vc, ev⟩ := owns_slice hv
                rw [hlt'] at ev
                subst ev
                have HP4 := hidE (HP3.out.same hs3)
                have c10 := cell_of (hs3.get B93.out id)
                clear hv hs3
                by_cases hlt3 : i < y.1.bs.length
                · have p5 : decide ((p : Int) + (i : Int) < (p : Int) + (y.1.bs.length : Int)) = true := decide_eq_true (by omega)
                  have e4 := wrapI ((p : Int) + (i : Int) + 1) (by omega) (by omega)
                  have eU : IntKind.u32.wrap ((p : Int) + (i : Int)) = (p : Int) + (i : Int) := by
                    simp [IntKind.wrap, IntKind.bits, IntKind.signed]; omega
                  obtain ⟨z, hz⟩ : ∃ z, y.1.bs[i]? = some z := ⟨_, List.getElem?_eq_getElem hlt3⟩
                  have hb0 := byte_ram wr HP4.out.c.ram (p + i) (by omega)
                  rw [if_pos (by omega), HL.out i z hz, show ((p + i : Nat) : Int) = (p : Int) + (i : Int) from by omega] at hb0
                  have HB0 := hidE hb0
                  have ht : y.1.bs.take (i + 1) = y.1.bs.take i ++ [z] := by rw [List.take_add_one, hz]; rfl
                  have k1 := (Keeps.refl (fun _ => False) wr).alloc (.cells #[.int .u8 z] 5)
                  have hz4 := HS3.out.size
                  obtain ⟨g2, cap2, w5, hr2, h3, h4⟩ := rowB_push (owns_apart HV.out k1 (fun _ _ => id)) wr.heap.size z (block_new _ _) (by omega) (by simp; omega)
                  rw [hlt'] at hr2 h3
                  have H3 := hidE h3
                  have HK5 := hidE (same_then (HS3.out.trans k1) h4 (fun b e => ((World.ownsRow.lt HV.out b e.symm).1)))
                  clear hb0 h3 h4 k1 c10 hz
                  go_wp2_with fail
                  refine HB0.out.mono ?_
                  rintro _ w6 ⟨rfl, rfl⟩
                  go_wp2_with (at_builtin; refine wpList_app rfl (.tmp 98) (.tmp 100) 57 rfl rfl rfl hr2 ?_; clear hr2)
                  exact ⟨⟨i + 1, _, by simp; omega, by omega, rfl, by rw [ht]; exact H3.out, HK5.out⟩, by simp only [intOf]; omega⟩
                · obtain rfl : i = y.1.bs.length := by omega
                  have p5 : decide ((p : Int) + (y.1.bs.length : Int) < (p : Int) + (y.1.bs.length : Int)) = false := by simp
                  have hv2 := HV.out
                  rw [List.take_length] at hv2
                  have HV2 := hidE hv2
                  obtain ⟨Br, hrr⟩ := HRR.out
                  obtain ⟨t, ht1, ht2, ht3, ht4, ht5, ht6, ht7⟩ := hcode
                  have hRT := right_any wr w3.heap.size Br (.slice vp y.1.bs.length vc) (.slice yp y.1.rs.length yc) t ht1 (by rw [← ht4]; exact HV2.out) (by rw [← ht5]; exact owns_apart hrr HS3.out (fun _ _ => id)) (by rw [← itR_len t 0, ← ht5]; omega) (by rw [← ht4]; omega)
                  have HRT := hidE hRT
                  clear hRT hv2 hrr ht1 ht2 ht3 ht4 ht5 ht6 ht7
                  go_wp2_with fail
                  refine HRT.out.mono ?_
                  rintro _ w6 ⟨rfl, hk6⟩
                  have HP6 := hidE (HP4.out.same hk6)
                  have HW6 := hidE ((HW3.out.trans HS3.out).trans hk6)
                  clear hk6 c10 HRT
                  go_wp2_with fail
                  exact ⟨⟨n + 1, _, hi' + 1, by simp, rfl, by omega, by omega, by omega, ⟨by omega, by omega⟩, HP6.out, HW6.out⟩, by simp only [intOf]; omega⟩
          · obtain rfl : n = l'.length := by omega
            have p0 : decide ((l'.length : Int) < (l'.length : Int)) = false := by simp
            have HU := hidE (cs_used HPn.out.c)
            have z5 : decide (E ≤ ((usedL (pl l) : Nat) : Int)) = true := decide_eq_true (by omega)
            have z6 : E ≤ ((usedL (pl l) : Nat) : Int) := by omega
            go_wp2_with fail
            refine HU.out.mono ?_
            rintro _ w5 ⟨rfl, rfl⟩
            go_wp2_with fail
            refine (works22 _).mono ?_
            rintro _ w6 ⟨rfl, hk6⟩
            have HW6 := hidE (HWn.out.trans hk6)
            clear hk6
            go_wp2
            go_ret
            exact ⟨rfl, HW6.out⟩)
theorem cacheLies_walk (w : World) (x0 : Int) (h0 : RdV Tryz.prog w 5 [.int .u8 x0]) (a1 : Option Addr) (l1 c1 : Nat) (h1 : RdV Tryz.prog w 22 [.slice a1 l1 c1]) (hz : RdZV (fun e len => len * Tryz.prog.bytesOf e ≤ reachBytes) Tryz.prog w 22 [.slice a1 l1 c1]) :
    Calls Tryz.prog 4 #[.int .u8 x0, .slice a1 l1 c1] w fun e w' => e = .returned (.bool true) ∧ Below w.heap.size w w' := by
  obtain ⟨x, e, p0, p1⟩ := h0.int (k := .u8) Tryz.underlying5
  simp at e
  subst e
  simp [IntKind.min, IntKind.max, IntKind.bits, IntKind.signed] at p0 p1
  have hb : Tryz.prog.bytesOf 3 = 8 := by kernel_rfl
  obtain ⟨hs, hc, hcap⟩ := steps_open (B := 17592186044416) (fun m hm => by rw [hb] at hm; simp only [reachBytes] at hm; omega) h1 hz
  exact (cacheLies_any w x0 (by omega) (by omega) a1 l1 c1 _ hs (by omega) hc hcap).mono fun e w' h => ⟨h.1, same_below h.2⟩
end Go.Proofs.YtomphgpplbekiaaGreat
