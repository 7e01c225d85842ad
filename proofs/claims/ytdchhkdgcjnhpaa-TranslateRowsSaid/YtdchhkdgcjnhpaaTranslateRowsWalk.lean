/- The walk of the statement TranslateRows. -/
import Derived.Test.YtdchhkdgcjnhpaaItems
import Derived.Test.YtdchhkdgcjnhpaaWorks20
import Derived.BigQuiet
namespace Go.Proofs.Ytdchhkdgcjnhpaa
open Go.RowKit

set_option maxHeartbeats 1000000 in
set_option maxRecDepth 100000 in
theorem rows_no (w : World) (b : Bk) (first : Int) (hb : b.Ok w) (x0 : 0 ≤ first) (x1 : first < 256) (hno : mayBlk b = false) :
    Calls Try.prog 12 #[.agg (bkA b), .int .u8 first] w fun e w' => e = .returned (.bool true) ∧ Below w.heap.size w w' := by
  have H1 := hidE (fun (w' : World) (hk : Same w w') => trans_no b first w' (hb.keeps hk) (by rw [hno]; simp))
  have H3 := hidE works_20
  clear hb hno
  simp only [bkA] at *
  go_enter Try.func12, Try.ntmps12
  go_wp2_with fail
  refine (H1.out _ ((Keeps.refl _ _).alloc _)).mono ?_
  rintro e w1 ⟨rfl, hk1⟩
  go_wp2_with fail
  refine (H3.out _).mono ?_
  rintro e w2 ⟨rfl, hk2⟩
  go_wp2
  go_ret
  exact ⟨rfl, same_below (((((Keeps.refl _ _).alloc _).trans hk1).alloc _).trans hk2)⟩
set_option maxHeartbeats 2000000 in
set_option maxRecDepth 100000 in
theorem rows_yes (w : World) (b : Bk) (first : Int) (hb : b.Ok w) (x0 : 0 ≤ first) (x1 : first < 256) (hm : mayBlk b = true) :
    Calls Try.prog 12 #[.agg (bkA b), .int .u8 first] w fun e w' => e = .returned (.bool true) ∧ Below w.heap.size w w' := by
  have hg := good_of hm
  have H1 := hidE (fun (w' : World) (hk : Same w w') => trans_yes b first w' (hb.keeps hk) hm x0 (by omega))
  have H3 := hidE works_20
  have hX : ∀ k, k < b.n → (b.X k).Ok := fun k hk => by
    rcases hb.ins with h | ⟨S, o, -, -, h⟩
    · omega
    · exact (h k hk).1
  have hl := trI_good hg hX hb.n0 hb.n1 first x0 (by omega)
  have hlen := trC_len hg first
  unfold TrPost at H1
  rw [tr_it hg first x0 (by omega)] at H1 hlen
  simp only [itC] at H1 hlen
  generalize trI b first = l at *
  have HL := hidE hl
  rw [itR_len] at hlen
  obtain ⟨hlb, hlr⟩ := hlen
  clear hb hm hg hX hl
  simp only [bkA] at *
  go_enter Try.func12, Try.ntmps12
  go_wp2_with fail
  refine (H1.out _ ((Keeps.refl _ _).alloc _)).mono ?_
  rintro e w1 ⟨bv, rv, rfl, hbv, hrv, hk1⟩
  obtain ⟨ab, cb, rfl⟩ := owns_slice hbv
  obtain ⟨ar, cr, rfl⟩ := owns_slice hrv
  have HBV := hidE hbv
  have HRV := hidE hrv
  have HK1 := hidE hk1
  clear hbv hrv hk1
  have hrl : (itR 0 l).length = l.length := itR_len l 0
  rw [hrl] at *
  clear hrl
  go_wp2_with fail
  go_loopw [7, 8] (fun t7 t8 wr => ∃ k : Nat, t8 = .int .i64 k ∧ k ≤ l.length ∧ t7 = .int .i64 ((itB (l.take k)).length) ∧ Same w1 wr ∧ wr.heap[w1.heap.size]? = some (.cells #[.slice ab (itB l).length cb, .slice ar l.length cr] 45 (0, 0))) (fun _ t8 _ => (l.length - intOf t8).toNat)
  case atStart => exact ⟨0, rfl, by omega, by simp [itB], (Keeps.refl _ _).alloc _, block_new _ _⟩
  case round =>
    obtain ⟨k, rfl, hkl, rfl, hs, hblk⟩ := hrel
    have c0 := cell_of hblk
    have hlt0 := lt_of_block hblk
    have HS := hidE hs
    have HB := hidE hblk
    clear hs hblk
    by_cases hlt : k < l.length
    · have hx := List.getElem?_eq_getElem hlt
      have hgx := HL.out l[k] (List.getElem_mem _)
      generalize l[k] = x at hx hgx
      obtain ⟨hd, hle⟩ := dec_at HL.out hx
      have htk := take_next hx
      have hne := enc_ne x.i true
      have hpos : 0 < (encL x.i true).length := List.length_pos_iff.2 hne
      have h6 := encL_6 x.i true
      obtain ⟨gb, cb', eb, hc1, hc2, hby⟩ := bytes_at HBV.out (itB_bytes HL.out) (itB (l.take k)).length (by omega)
      obtain ⟨gr, cr', er, r0, r1, r2, r3⟩ := rowR_cells HRV.out (itR_get l 0 k x hx)
      simp only [Value.slice.injEq] at eb er
      obtain ⟨rfl, -, rfl⟩ := eb
      obtain ⟨rfl, -, rfl⟩ := er
      have z0 := cellK (F := fun _ => False) HS.out id r0
      have z3 := cellK (F := fun _ => False) HS.out id r3
      simp only [Int.zero_add] at z0 z3
      have HD := hidE hd
      have HBY := hidE (hby.keeps (HS.out.alloc (.cells #[.int .i64 0] 3)))
      have HBY0 := hidE (hby.keeps HS.out)
      have HTK := hidE htk
      have hleave := hgx.leave
      obtain ⟨⟨op, xa, xb, imm⟩, pc, dn, ex⟩ := x
      simp only at *
      have hi0 := hgx.ok.n0
      have hi1 := hgx.ok.n1
      simp only at hi0 hi1
      generalize (encL ⟨op, xa, xb, imm⟩ true).length = n at *
      generalize (itB (l.take k)).length = at_ at *
      generalize (itB l).length = LB at *
      unfold maxLen at hc2
      have qa : (0 : Int) ≤ k := by omega
      have qb : (k : Int) < l.length := by omega
      have qc : (0 : Int) ≤ at_ := by omega
      have qd : (at_ : Int) ≤ LB := by omega
      have qe : (LB : Int) ≤ cb := by omega
      have qf : (at_ : Int) < LB := by omega
      have qg : decide ((LB : Int) ≤ at_) = false := by simp; omega
      have qh : ((at_ : Int) != at_) = false := by simp
      clear r0 r1 r2 r3 hx hgx hd hne hby htk
      go_wp2_with fail
      have HDC := hidE (show Calls Try.prog 38 #[.slice (some ⟨gb, at_, none⟩) (LB - at_) (cb - at_), .bool true] wr _ by have h := decode_any (some ⟨gb, at_, none⟩) (LB - at_) (cb - at_) true _ wr (by omega) HBY0.out; rw [HD.out] at h; exact h)
      refine HDC.out.mono ?_
      rintro e w2 ⟨rfl, hk2⟩
      have g3 := cellK (F := fun _ => False) hk2 id z3
      have lgr : gr < w2.heap.size := World.block_lt_of_cell? w2 ⟨gr, k * 4 + 3, none⟩ g3
      have B2 := hk2.get HB.out id
      have g0 := cell_of B2
      have HK2 := hidE hk2
      have HB2 := hidE B2
      have hz2 := lt_of_block B2
      simp only [decV, inA]
      clear hk2 B2 z0 z3 c0 HDC HD HBY HBY0
      rcases hleave with ⟨rfl, rfl, hex⟩ | ⟨hop, rfl⟩
      · have p1 : decide (0 ≤ imm) = true := by simp [hex]
        go_wp2_with fail
        go_quiet (fail)
        go_wp2
        go_roundw
        case rel => exact ⟨k + 1, by go_num, by omega, by rw [HTK.out]; go_num, ((HS.out.trans HK2.out).alloc _).drewN _, block_old _ HB2.out⟩
        case measure => simp [intOf]; omega
      · have p1 : (op == 113) = false := by simpa using hop
        go_wp2_with fail
        go_quiet (fail)
        go_wp2
        go_roundw
        case rel => exact ⟨k + 1, by go_num, by omega, by rw [HTK.out]; go_num, ((HS.out.trans HK2.out).alloc _).drewN _, block_old _ HB2.out⟩
        case measure => simp [intOf]; omega
    · obtain rfl : k = l.length := by omega
      have hend : (itB (l.take l.length)).length = (itB l).length := by rw [List.take_length]
      rw [hend] at *
      clear hend
      go_wp2_with fail
      refine (H3.out _).mono ?_
      rintro e w2 ⟨rfl, hk2⟩
      go_wp2
      go_ret
      exact ⟨rfl, same_below (((((Keeps.refl _ _).alloc _).trans HK1.out).trans HS.out).trans hk2)⟩
theorem translateRows_walk (w : World) (s0 : Array Value) (h0 : RdV Try.prog w 41 s0.toList) (x1 : Int) (h1 : RdV Try.prog w 5 [.int .u8 x1]) :
    Calls Try.prog 12 #[.agg s0, .int .u8 x1] w fun e w' => e = .returned (.bool true) ∧ Below w.heap.size w w' := by
  obtain ⟨b, rfl, hb⟩ := bk_open h0
  obtain ⟨_, hx, l0, m0⟩ := RdV.int (k := .u8) h1 Try.underlying5
  cases hx
  simp [IntKind.min, IntKind.max, IntKind.bits, IntKind.signed] at l0 m0
  cases hm : mayBlk b
  · exact rows_no w b x1 hb l0 (by omega) hm
  · exact rows_yes w b x1 hb l0 (by omega) hm
end Go.Proofs.Ytdchhkdgcjnhpaa
