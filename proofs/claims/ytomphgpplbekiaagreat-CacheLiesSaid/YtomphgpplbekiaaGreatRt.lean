/- rows.Right, of the rows of a code. -/
import Derived.Test.YtomphgpplbekiaaGreatItems
import Derived.Test.YtomphgpplbekiaaGreatCnO
namespace Go.Proofs.YtomphgpplbekiaaGreat
open Go.RowKit
attribute [local go_sem ↓] Go.wp_at_zero Go.wp_at_succ
section
attribute [local go_sem ↓] x_stKy x_stRw x_stLd x_stOu x_stRb x_stCd x_stBk x_stLk
attribute [local go_sem] st_Ky st_Rw st_Ld st_Ou st_Rb st_Cd st_Bk st_Lk ne_s1 en_s1 ne_s2 en_s2 ne_s3 en_s3 ne_s4 en_s4 ne_s5 en_s5 ne_s6 en_s6 ne_s7 en_s7 ne_s8 en_s8 lt_s2 lt_s3 lt_s4 lt_s5 lt_s6 lt_s7 lt_s8 rowAt_at rowAt_old rowAt_drew rowAt_drewN setRow_drew setRow_at setRow_old setRow_setRow rowAt_setRow_eq rowAt_setRow_ne cell_setRow_eq cell_setRow_ne frozen_setRow_eq frozen_setRow_ne ones_lit oc_int oc_bool oc_str oc_ptr oc_sl oc_map oc_fn oc_nf oc_ni oc_if
set_option maxRecDepth 100000 in
theorem fits_leave (w : World) (off pc dn : Int) (i : In) (h0 : -2147483648 ≤ i.imm) (h1 : i.imm ≤ 2147483647) (ho : i.op = 113) :
    Calls Tryz.prog 57 #[.agg #[.int .i64 off, .int .u32 pc, .int .i64 dn, .int .i64 i.imm], .agg (inA i)] w fun e w' => e = .returned (.bool true) ∧ Same w w' := by
  obtain ⟨op, xa, xb, imm⟩ := i
  simp only at h0 h1 ho
  subst ho
  have e1 := wrapI imm (by omega) (by omega)
  have s1 : (imm == imm) = true := by simp
  have s2 : ((113 : Int) != 113) = false := by simp
  simp only [inA]
  go_enter Tryz.func57, Tryz.ntmps57
  go_wp2
  go_ret
  exact ⟨rfl, ((Keeps.refl _ _).alloc _).alloc _⟩
set_option maxRecDepth 100000 in
theorem fits_plain (w : World) (off pc dn : Int) (i : In) (ho : i.op ≠ 113) :
    Calls Tryz.prog 57 #[.agg #[.int .i64 off, .int .u32 pc, .int .i64 dn, .int .i64 (-1)], .agg (inA i)] w fun e w' => e = .returned (.bool true) ∧ Same w w' := by
  obtain ⟨op, xa, xb, imm⟩ := i
  simp only at ho
  have s2 : (op != 113) = true := by simpa using ho
  simp only [inA]
  go_enter Tryz.func57, Tryz.ntmps57
  go_wp2
  go_ret
  exact ⟨rfl, ((Keeps.refl _ _).alloc _).alloc _⟩
set_option maxRecDepth 100000 in
set_option maxHeartbeats 4000000 in
theorem right_any (w : World) (B1 B2 : Nat) (bv rv : Value) (l : List It) (hl : ∀ x ∈ l, x.Good) (hb : RowB w B1 bv (itB l)) (hr : RowR w B2 rv (itR 0 l)) (hll : l.length ≤ 5000) (hbl : (itB l).length ≤ 5000) :
    Calls Tryz.prog 18 #[.agg #[bv, rv]] w fun e w' => e = .returned (.bool true) ∧ Same w w' := by
  obtain ⟨ab, cb, rfl⟩ := owns_slice hb
  obtain ⟨ar, cr, rfl⟩ := owns_slice hr
  have HL := hidE hl
  have HBV := hidE hb
  have HRV := hidE hr
  clear hb hr hl
  have hrl : (itR 0 l).length = l.length := itR_len l 0
  rw [hrl] at *
  clear hrl
  go_enter Tryz.func18, Tryz.ntmps18
  go_wp2_with fail
  go_loopw [3, 12] (fun t3 t12 wr => ∃ k : Nat, t12 = .int .i64 k ∧ k ≤ l.length ∧ t3 = .int .i64 ((itB (l.take k)).length) ∧ Same w wr ∧ wr.heap[w.heap.size]? = some (.cells #[.slice ab (itB l).length cb, .slice ar l.length cr] 60 (0, 0))) (fun _ t12 _ => (l.length - intOf t12).toNat)
  case atStart => exact ⟨0, rfl, by omega, by simp [itB], (Keeps.refl _ _).alloc _, block_new _ _⟩
  case round =>
    obtain ⟨k, rfl, hkl, rfl, hs, hblk⟩ := hrel
    have HS := hidE hs
    have HB := hidE hblk
    have c0 := cell_of hblk
    clear hs hblk
    by_cases hlt : k < l.length
    · have p0 : decide ((k : Int) < (l.length : Int)) = true := decide_eq_true (by omega)
      have e1 := wrapI ((k : Int) + 1) (by omega) (by omega)
      have hx := List.getElem?_eq_getElem hlt
      have hgx := HL.out l[k] (List.getElem_mem _)
      generalize l[k] = x at hx hgx
      obtain ⟨hd, hle⟩ := dec_at HL.out hx
      have htk := take_next hx
      have h6 := encL_6 x.i true
      have hpos : 0 < (encL x.i true).length := by simp [encL, headL]
      obtain ⟨gb, cb', eb, hc1, hc2, hby⟩ := bytes_at HBV.out (itB_bytes HL.out) (itB (l.take k)).length (by omega)
      obtain ⟨gr, cr', er, -, hcr⟩ := rowsR_cells HRV.out (itR_get l 0 k x hx)
      simp only [Value.slice.injEq] at eb er
      obtain ⟨rfl, -, rfl⟩ := eb
      obtain ⟨rfl, -, rfl⟩ := er
      have z0 := cell_same1 HS.out (hcr 0 _ rfl)
      have z1 := cell_same1 HS.out (hcr 1 _ rfl)
      have z2 := cell_same1 HS.out (hcr 2 _ rfl)
      have z3 := cell_same1 HS.out (hcr 3 _ rfl)
      simp only [Int.zero_add, Nat.add_zero] at z0 z1 z2 z3
      have HD := hidE hd
      have HBY0 := hidE (hby.keeps HS.out)
      have HTK := hidE htk
      have hleave := hgx.leave
      have hi0 := hgx.ok.n0
      have hi1 := hgx.ok.n1
      obtain ⟨xi, pc, dn, ex⟩ := x
      simp only at *
      generalize (encL xi true).length = n at *
      generalize (itB (l.take k)).length = at_ at *
      generalize (itB l).length = LB at *
      unfold maxLen at hc2
      have qa : (0 : Int) ≤ k := by omega
      have qb : (k : Int) < l.length := by omega
      have qc : (0 : Int) ≤ at_ := by omega
      have qd : (at_ : Int) ≤ LB := by omega
      have qe : (LB : Int) ≤ cb := by omega
      have qf : (at_ : Int) < LB := by omega
      have qg : decide ((LB : Int) ≤ at_) = false := by simp; omega
      have qh : ((at_ : Int) != at_) = false := by simp
      have e2 := wrapI ((at_ : Int) + (n : Int)) (by omega) (by omega)
      have B9 := hidE (block_new wr (.cells #[.int .i64 at_, .int .u32 pc, .int .i64 dn, .int .i64 ex] 49))
      have B0 := hidE (block_old (.cells #[.int .i64 at_, .int .u32 pc, .int .i64 dn, .int .i64 ex] 49) HB.out)
      have k4 := (Keeps.refl (fun _ => False) wr).alloc (.cells #[.int .i64 at_, .int .u32 pc, .int .i64 dn, .int .i64 ex] 49)
      have HK4 := hidE k4
      have HBY := hidE (hby.keeps (HS.out.trans k4))
      have c9 := cell_of B0.out
      have HDC := hidE (show Calls Tryz.prog 56 #[.slice (some ⟨gb, at_, none⟩) (LB - at_) (cb - at_), .bool true] _ _ by have h := decode_any (some ⟨gb, at_, none⟩) (LB - at_) (cb - at_) true _ _ (by omega) HBY.out; rw [HD.out] at h; exact h)
      clear hx hgx hd hby htk hcr k4
      go_wp2_with fail
      refine HDC.out.mono ?_
      rintro e w2 ⟨rfl, hk2⟩
      have B92 := hidE (block_old (.cells (inA xi) 122) (hk2.get B9.out id))
      have B02 := hidE (block_old (.cells (inA xi) 122) (hk2.get B0.out id))
      have BI := hidE (block_new w2 (.cells (inA xi) 122))
      have HK6 := hidE ((HS.out.trans (HK4.out.trans hk2)).alloc (.cells (inA xi) 122))
      have y1 := cell_of B92.out
      have y2 := cell_of BI.out
      have HF : Hid (∀ u, Calls Tryz.prog 57 #[.agg #[.int .i64 at_, .int .u32 pc, .int .i64 dn, .int .i64 ex], .agg (inA xi)] u fun e w' => e = .returned (.bool true) ∧ Same u w') := hidE fun u => by
        rcases hleave with ⟨h1, h2, -⟩ | ⟨h1, h2⟩
        · rw [← h2]; exact fits_leave u _ _ _ xi hi0 hi1 h1
        · rw [h2]; exact fits_plain u _ _ _ xi h1
      obtain ⟨op, xa, xb, imm⟩ := xi
      simp only [decV, inA] at *
      clear hk2 c9 c0 z0 z1 z2 z3 HDC HD HBY HBY0 hleave
      go_wp2_with fail
      refine (HF.out _).mono ?_
      rintro _ w3 ⟨rfl, hk3⟩
      have HK7 := hidE (HK6.out.trans hk3)
      have B03 := hidE (hk3.get B02.out id)
      clear hk3 y1 y2 HF
      go_wp2_with fail
      exact ⟨⟨k + 1, by simp, by omega, by rw [HTK.out]; simp, HK7.out, B03.out⟩, by simp only [intOf]; omega⟩
    · obtain rfl : k = l.length := by omega
      have p0 : decide ((l.length : Int) < (l.length : Int)) = false := by simp
      have hend : (itB (l.take l.length)).length = (itB l).length := by rw [List.take_length]
      rw [hend]
      have p1 : (((itB l).length : Int) == ((itB l).length : Int)) = true := by simp
      go_wp2
      go_ret
      exact ⟨rfl, HS.out⟩
end
end Go.Proofs.YtomphgpplbekiaaGreat
