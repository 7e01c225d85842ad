/- The walk of the statement TranslateCounts. -/
import Derived.Test.YtdchhkdgcjnhpaaItems2
import Derived.Test.YtdchhkdgcjnhpaaWorks20
import Derived.BigQuiet
namespace Go.Proofs.Ytdchhkdgcjnhpaa
open Go.RowKit

set_option maxHeartbeats 1000000 in
set_option maxRecDepth 100000 in
theorem counts_no (w : World) (b : Bk) (first : Int) (hb : b.Ok w) (x0 : 0 ≤ first) (x1 : first < 256) (hno : mayBlk b = false) :
    Calls Try.prog 13 #[.agg (bkA b), .int .u8 first] w fun e w' => e = .returned (.bool true) ∧ Below w.heap.size w w' := by
  have H1 := hidE (fun (w' : World) (hk : Same w w') => trans_no b first w' (hb.keeps hk) (by rw [hno]; simp))
  have H3 := hidE works_20
  clear hb hno
  simp only [bkA] at *
  go_enter Try.func13, Try.ntmps13
  go_wp2_with fail
  refine (H1.out _ ((Keeps.refl _ _).alloc _)).mono ?_
  rintro e w1 ⟨rfl, hk1⟩
  go_wp2_with fail
  refine (H3.out _).mono ?_
  rintro e w2 ⟨rfl, hk2⟩
  go_wp2
  go_ret
  exact ⟨rfl, same_below (((((Keeps.refl _ _).alloc _).trans hk1).alloc _).trans hk2)⟩
set_option maxHeartbeats 2000000 in
set_option maxRecDepth 100000 in
theorem counts_yes (w : World) (b : Bk) (first : Int) (hb : b.Ok w) (x0 : 0 ≤ first) (x1 : first < 256) (hm : mayBlk b = true) :
    Calls Try.prog 13 #[.agg (bkA b), .int .u8 first] w fun e w' => e = .returned (.bool true) ∧ Below w.heap.size w w' := by
  have hg := good_of hm
  have H1 := hidE (fun (w' : World) (hk : Same w w') => trans_yes b first w' (hb.keeps hk) hm x0 (by omega))
  have H3 := hidE works_20
  have hX : ∀ k, k < b.n → (b.X k).Ok := fun k hk => by
    rcases hb.ins with h | ⟨S, o, -, -, h⟩
    · omega
    · exact (h k hk).1
  have hl := trI_good hg hX hb.n0 hb.n1 first x0 (by omega)
  have hlen := trC_len hg first
  obtain ⟨hpc, hcnt⟩ := trI_counts b first x0
  unfold TrPost at H1
  rw [tr_it hg first x0 (by omega)] at H1 hlen
  simp only [itC] at H1 hlen
  generalize trI b first = l at *
  have HL := hidE hl
  have HPC := hidE hpc
  have HCNT := hidE hcnt
  rw [itR_len] at hlen
  obtain ⟨hlb, hlr⟩ := hlen
  have hcl : ∀ k, cnt (l.take k) ≤ l.length := fun k => by
    unfold cnt
    exact Nat.le_trans (List.length_filter_le _ _) (List.length_take_le' _ _)
  have HCL := hidE hcl
  have hl1 : 1 ≤ l.length := by
    rcases Nat.lt_or_ge 0 l.length with h | h
    · exact h
    · obtain rfl : l = [] := List.eq_nil_of_length_eq_zero (by omega)
      simp [cnt] at hcnt
      split at hcnt <;> omega
  have hc1 : cnt (l.take 1) = 0 := by
    rw [cnt_take (List.getElem?_eq_getElem (show 0 < l.length by omega))]
    by_cases h : (0 : Int) ≤ (l[0]'(by omega)).ex
    · obtain ⟨j, x, hj, -⟩ := hpc 0 _ (List.getElem?_eq_getElem (show 0 < l.length by omega)) h
      omega
    · rw [if_neg h]; simp [cnt]
  have HC1 := hidE hc1
  have hbn : -9223372036854775808 ≤ b.fin := hb.e0
  clear hb hm hg hX hl hpc hcnt hcl hc1
  have hbl := block_new w (.cells (bkA b) 41)
  have HBL := hidE hbl
  clear hbl
  simp only [bkA] at *
  go_enter Try.func13, Try.ntmps13
  go_wp2_with fail
  refine (H1.out _ ((Keeps.refl _ _).alloc _)).mono ?_
  rintro e w1 ⟨bv, rv, rfl, hbv, hrv, hk1⟩
  obtain ⟨ab, cb, rfl⟩ := owns_slice hbv
  obtain ⟨ar, cr, rfl⟩ := owns_slice hrv
  have HBX := hidE (hk1.get HBL.out id)
  have HBV := hidE hbv
  have HRV := hidE hrv
  have HK1 := hidE hk1
  clear hbv hrv hk1
  have hrl : (itR 0 l).length = l.length := itR_len l 0
  rw [hrl] at *
  clear hrl
  go_wp2_with fail
  go_loopw [7, 8] (fun t7 t8 wr => ∃ j : Nat, t8 = .int .i64 ((j : Int) + 1) ∧ j + 1 ≤ l.length ∧ t7 = .int .i64 (first + cnt (l.take (j + 1))) ∧ Same w1 wr ∧ wr.heap[w1.heap.size]? = some (.cells #[.slice ab (itB l).length cb, .slice ar l.length cr] 45 (0, 0))) (fun _ t8 _ => (l.length - intOf t8).toNat)
  case atStart => exact ⟨0, rfl, by omega, by rw [HC1.out]; simp, (Keeps.refl _ _).alloc _, block_new _ _⟩
  case round =>
    obtain ⟨j, rfl, hjl, rfl, hs, hblk⟩ := hrel
    have c0 := cell_of hblk
    have hlt0 := lt_of_block hblk
    have HS := hidE hs
    have HB := hidE hblk
    have hcn := HCL.out (j + 1)
    clear hs hblk
    by_cases hlt : j + 1 < l.length
    · have hy := List.getElem?_eq_getElem hlt
      have hx := List.getElem?_eq_getElem (show j < l.length by omega)
      have hgx := HL.out l[j] (List.getElem_mem _)
      generalize l[j] = x at hx hgx
      generalize l[j + 1] = y at hy
      have hct := cnt_take hy
      have HCT := hidE hct
      have hpx := HPC.out (j + 1) y hy
      obtain ⟨gr, cr', er, r0, r1, r2, r3⟩ := rowR_cells HRV.out (itR_get l 0 j x hx)
      obtain ⟨gr2, cr2, er2, s0, s1, s2, s3⟩ := rowR_cells HRV.out (itR_get l 0 (j + 1) y hy)
      simp only [Value.slice.injEq] at er
      obtain ⟨rfl, -, rfl⟩ := er
      simp only [Value.slice.injEq, Option.some.injEq, Addr.mk.injEq] at er2
      obtain ⟨⟨rfl, -, -⟩, -, rfl⟩ := er2
      have z0 := cellK (F := fun _ => False) HS.out id r0
      have z1 := cellK (F := fun _ => False) HS.out id r1
      have z2 := cellK (F := fun _ => False) HS.out id r2
      have z3 := cellK (F := fun _ => False) HS.out id r3
      have v1 := cellK (F := fun _ => False) HS.out id s1
      have v3 := cellK (F := fun _ => False) HS.out id s3
      simp only [Int.zero_add] at z0
      have qa : (0 : Int) ≤ j := by omega
      have qb : (j : Int) < l.length := by omega
      have qb2 : (j : Int) + 1 < l.length := by omega
      clear r0 r1 r2 r3 s0 s1 s2 s3 hct
      by_cases hye : 0 ≤ y.ex
      · obtain ⟨hd, hle⟩ := dec_at HL.out hx
        have hpos : 0 < (encL x.i true).length := List.length_pos_iff.2 (enc_ne x.i true)
        obtain ⟨gb, cb', eb, hc1, hc2, hby⟩ := bytes_at HBV.out (itB_bytes HL.out) (itB (l.take j)).length (by omega)
        simp only [Value.slice.injEq] at eb
        obtain ⟨rfl, -, rfl⟩ := eb
        obtain ⟨j2, x2, hj2, hx2, p1, p2, p3, p4⟩ := hpx hye
        obtain rfl : j = j2 := by omega
        obtain rfl : x = x2 := by rw [hx] at hx2; exact Option.some.inj hx2
        have HD := hidE hd
        have HBY := hidE (hby.keeps (HS.out))
        obtain ⟨⟨op, xa, xb, imm⟩, pc, dn, ex⟩ := x
        obtain ⟨iy, pcy, dny, exy⟩ := y
        simp only at p1 p2 p3 p4 hye HD z0 z1 z2 z3 v1 v3 HCT hle hpos hgx
        subst p1 p2 p3 p4
        have hi0 := hgx.ok.n0
        have hi1 := hgx.ok.n1
        simp only at hi0 hi1
        have HCT2 : Hid (cnt (l.take (j + 1 + 1)) = cnt (l.take (j + 1)) + 1) := hidE (by rw [HCT.out, if_pos hye])
        clear HCT hx hy hx2 hd hby hpx hgx
        generalize cnt (l.take (j + 1)) = cc at *
        generalize (encL ⟨112, xa, xb, imm⟩ true).length = n at *
        generalize (itB (l.take j)).length = at_ at *
        generalize (itB l).length = LB at *
        unfold maxLen at hc2
        have hye' : ¬ (first + cc < 0) := by omega
        have qc : (0 : Int) ≤ at_ := by omega
        have qd : (at_ : Int) ≤ LB := by omega
        have qe : (LB : Int) ≤ cb := by omega
        go_wp2_with fail
        have HDC := hidE (show Calls Try.prog 38 #[.slice (some ⟨gb, at_, none⟩) (LB - at_) (cb - at_), .bool true] (wr.alloc (.cells #[.int .i64 at_, .int .u32 pc, .int .i64 imm, .int .i64 ex] 68)) _ by have h := decode_any (some ⟨gb, at_, none⟩) (LB - at_) (cb - at_) true _ (wr.alloc (.cells #[.int .i64 at_, .int .u32 pc, .int .i64 imm, .int .i64 ex] 68)) (by omega) (HBY.out.keeps ((Keeps.refl _ _).alloc _)); rw [HD.out] at h; exact h)
        refine HDC.out.mono ?_
        rintro e w2 ⟨rfl, hk2⟩
        have g1 := cellK (F := fun _ => False) hk2 id (cellA _ v1)
        have g3 := cellK (F := fun _ => False) hk2 id (cellA _ v3)
        have lgr : gr < w2.heap.size := World.block_lt_of_cell? w2 ⟨gr, (j + 1) * 4 + 3, none⟩ g3
        have B2 := hk2.get (block_old _ HB.out) id
        have B9 := hk2.get (block_new wr _) id
        have g0 := cell_of B2
        have g9 := cell_of B9
        have HK2 := hidE hk2
        have HB2 := hidE B2
        have hz2 := lt_of_block B2
        have hz9 := lt_of_block B9
        simp only [decV, inA]
        clear hk2 B2 B9 z0 z1 z2 z3 v1 v3 c0 HDC HD HBY
        go_wp2_with fail
        go_quiet (fail)
        go_wp2
        go_roundw
        case rel => exact ⟨j + 1, by go_num, by omega, by rw [HCT2.out]; go_num, ((((Keeps.trans HS.out ((Keeps.refl _ _).alloc _)).trans HK2.out).alloc _).drewN _), block_old _ HB2.out⟩
        case measure => simp [intOf]; omega
      · have hye2 : y.ex < 0 := by omega
        go_wp2
        go_roundw
        case rel => exact ⟨j + 1, by go_num, by omega, by rw [HCT.out, if_neg hye]; rfl, HS.out, HB.out⟩
        case measure => simp [intOf]; omega
    · have hjl2 : j + 1 = l.length := by omega
      have hcf : cnt (l.take (j + 1)) = if b.fin = 3 then 2 else 1 := by rw [hjl2, List.take_length, HCNT.out]
      have hbx := cell_of (HS.out.get HBX.out id)
      clear HCNT
      generalize cnt (l.take (j + 1)) = cc at *
      clear hjl2
      by_cases hf : b.fin = 3
      · rw [if_pos hf] at hcf
        subst hcf
        have hf1 : (b.fin == 3) = true := by simp [hf]
        clear hf
        go_wp2_with fail
        refine (H3.out _).mono ?_
        rintro e w2 ⟨rfl, hk2⟩
        go_wp2
        go_ret
        exact ⟨rfl, same_below (((((Keeps.refl _ _).alloc _).trans HK1.out).trans HS.out).trans hk2)⟩
      · rw [if_neg hf] at hcf
        subst hcf
        have hf1 : (b.fin == 3) = false := by simp [hf]
        clear hf
        go_wp2_with fail
        refine (H3.out _).mono ?_
        rintro e w2 ⟨rfl, hk2⟩
        go_wp2
        go_ret
        exact ⟨rfl, same_below (((((Keeps.refl _ _).alloc _).trans HK1.out).trans HS.out).trans hk2)⟩
theorem translateCounts_walk (w : World) (s0 : Array Value) (h0 : RdV Try.prog w 41 s0.toList) (x1 : Int) (h1 : RdV Try.prog w 5 [.int .u8 x1]) :
    Calls Try.prog 13 #[.agg s0, .int .u8 x1] w fun e w' => e = .returned (.bool true) ∧ Below w.heap.size w w' := by
  obtain ⟨b, rfl, hb⟩ := bk_open h0
  obtain ⟨_, hx, l0, m0⟩ := RdV.int (k := .u8) h1 Try.underlying5
  cases hx
  simp [IntKind.min, IntKind.max, IntKind.bits, IntKind.signed] at l0 m0
  cases hm : mayBlk b
  · exact counts_no w b x1 hb l0 (by omega) hm
  · exact counts_yes w b x1 hb l0 (by omega) hm
end Go.Proofs.Ytdchhkdgcjnhpaa
