/- The walk of the statement TranslateSafe. -/
import Derived.Test.YtdchhkdgcjnhpaaItems2
import Derived.Test.YtdchhkdgcjnhpaaWorks20
import Derived.Deep.RegionHeld3
namespace Go.Proofs.Ytdchhkdgcjnhpaa
open Go.RowKit

set_option maxHeartbeats 1000000 in
set_option maxRecDepth 100000 in
theorem safe_no (w : World) (b : Bk) (first : Int) (hb : b.Ok w) (x0 : 0 ≤ first) (x1 : first < 256) (hno : mayBlk b = false) :
    Calls Try.prog 14 #[.agg (bkA b), .int .u8 first] w fun e w' => e = .returned (.bool true) ∧ Below w.heap.size w w' := by
  have H1 := hidE (fun (w' : World) (hk : Same w w') => trans_no b first w' (hb.keeps hk) (by rw [hno]; simp))
  have H3 := hidE works_20
  clear hb hno
  simp only [bkA] at *
  go_enter Try.func14, Try.ntmps14
  go_wp2_with fail
  refine (H1.out _ ((Keeps.refl _ _).alloc _)).mono ?_
  rintro e w1 ⟨rfl, hk1⟩
  go_wp2_with fail
  refine (H3.out _).mono ?_
  rintro e w2 ⟨rfl, hk2⟩
  go_wp2
  go_ret
  exact ⟨rfl, same_below (((((Keeps.refl _ _).alloc _).trans hk1).alloc _).trans hk2)⟩
theorem cellS {w : World} {b o' S o : Nat} {v x : Value} (h : w.cell? ⟨S, o, none⟩ = some v) (hne : S ≠ b) : (w.setCell ⟨b, o', none⟩ x).cell? ⟨S, o, none⟩ = some v :=
  cellK (keeps_set w b o' x) hne h
set_option maxHeartbeats 2000000 in
set_option maxRecDepth 100000 in
theorem safe_yes (w : World) (b : Bk) (first : Int) (hb : b.Ok w) (x0 : 0 ≤ first) (x1 : first < 256) (hm : mayBlk b = true) :
    Calls Try.prog 14 #[.agg (bkA b), .int .u8 first] w fun e w' => e = .returned (.bool true) ∧ Below w.heap.size w w' := by
  have hg := good_of hm
  have H1 := hidE (fun (w' : World) (hk : Same w w') => trans_yes b first w' (hb.keeps hk) hm x0 (by omega))
  have H3 := hidE works_20
  have hX : ∀ k, k < b.n → (b.X k).Ok := fun k hk => by
    rcases hb.ins with h | ⟨S, o, -, -, h⟩
    · omega
    · exact (h k hk).1
  have hl := trI_good hg hX hb.n0 hb.n1 first x0 (by omega)
  have hsf := trI_safe hg hX first
  have hlen := trC_len hg first
  unfold TrPost at H1
  rw [tr_it hg first x0 (by omega)] at H1 hlen
  simp only [itC] at H1 hlen
  generalize trI b first = l at *
  have HL := hidE hl
  have HSF := hidE hsf
  rw [itR_len] at hlen
  obtain ⟨hlb, hlr⟩ := hlen
  clear hb hm hg hX hl hsf
  have hbl := block_new w (.cells (bkA b) 41)
  have HBL := hidE hbl
  clear hbl
  simp only [bkA] at *
  go_enter Try.func14, Try.ntmps14
  go_wp2_with fail
  refine (H1.out _ ((Keeps.refl _ _).alloc _)).mono ?_
  rintro e w1 ⟨bv, rv, rfl, hbv, hrv, hk1⟩
  obtain ⟨ab, cb, rfl⟩ := owns_slice hbv
  obtain ⟨ar, cr, rfl⟩ := owns_slice hrv
  have HBX := hidE (hk1.get HBL.out id)
  have HBV := hidE hbv
  have HRV := hidE hrv
  have HK1 := hidE hk1
  clear hbv hrv hk1
  have hrl : (itR 0 l).length = l.length := itR_len l 0
  rw [hrl] at *
  clear hrl
  go_wp2_with fail
  go_loopw [7] (fun t7 wr => ∃ k : Nat, t7 = .int .i64 k ∧ k ≤ l.length ∧ Same w1 wr ∧ wr.heap[w1.heap.size]? = some (.cells #[.slice ab (itB l).length cb, .slice ar l.length cr] 45 (0, 0))) (fun t7 _ => (l.length - intOf t7).toNat)
  case atStart => exact ⟨0, rfl, by omega, (Keeps.refl _ _).alloc _, block_new _ _⟩
  case round =>
    obtain ⟨k, rfl, hkl, hs, hblk⟩ := hrel
    have c0 := cell_of hblk
    have hlt0 := lt_of_block hblk
    have hltw := lt_of_block HBX.out
    have HS := hidE hs
    have HB := hidE hblk
    by_cases hlt : k < l.length
    · have hx := List.getElem?_eq_getElem hlt
      have hgx := HL.out l[k] (List.getElem_mem _)
      have hsx := HSF.out l[k] (List.getElem_mem _)
      generalize l[k] = x at hx hgx hsx
      obtain ⟨hd, hle⟩ := dec_at HL.out hx
      have hpos : 0 < (encL x.i true).length := List.length_pos_iff.2 (enc_ne x.i true)
      obtain ⟨gb, cb', eb, hc1, hc2, hby⟩ := bytes_at HBV.out (itB_bytes HL.out) (itB (l.take k)).length (by omega)
      obtain ⟨gr, cr', er, r0, r1, r2, r3⟩ := rowR_cells HRV.out (itR_get l 0 k x hx)
      simp only [Value.slice.injEq] at eb er
      obtain ⟨rfl, -, rfl⟩ := eb
      obtain ⟨rfl, -, rfl⟩ := er
      have z0 := cellK (F := fun _ => False) HS.out id r0
      simp only [Int.zero_add] at z0
      have HD := hidE hd
      have HBY0 := hidE (hby.keeps HS.out)
      obtain ⟨⟨op, xa, xb, imm⟩, pc, dn, ex⟩ := x
      obtain ⟨s1, s2, s3, s4⟩ := hsx
      simp only at s1 s2 s3 s4 HD hle hpos z0
      have HBF := hidE (cell_of (hs.get HBX.out id))
      generalize (encL ⟨op, xa, xb, imm⟩ true).length = n at *
      generalize (itB (l.take k)).length = at_ at *
      generalize (itB l).length = LB at *
      unfold maxLen at hc2
      have qa : (0 : Int) ≤ k := by omega
      have qb : (k : Int) < l.length := by omega
      have qc : (0 : Int) ≤ at_ := by omega
      have qd : (at_ : Int) ≤ LB := by omega
      have qe : (LB : Int) ≤ cb := by omega
      have qz : ¬ cb = at_ := by omega
      have lgr : gr < wr.heap.size := World.block_lt_of_cell? wr ⟨gr, k * 4, none⟩ z0
      have y0 : wr.cell? ⟨w1.heap.size, 0, none⟩ = some (.slice (some ⟨gb, 0, none⟩) LB cb) := c0 0
      have y1 : wr.cell? ⟨w1.heap.size, 1, none⟩ = some (.slice (some ⟨gr, 0, none⟩) l.length cr) := c0 1
      have HDC : Hid (∀ u, Same wr u → Calls Try.prog 38 #[.slice (some ⟨gb, at_, none⟩) (LB - at_) (cb - at_), .bool true] u _) := hidE (fun u hu => by have h := decode_any (some ⟨gb, at_, none⟩) (LB - at_) (cb - at_) true _ u (by omega) (HBY0.out.keeps hu); rw [HD.out] at h; exact h)
      clear r0 r1 r2 r3 hx hgx hd hby hs hblk c0
      go_wp2_with fail
      go_region_held3 (fun u => Same wr u ∧ u.cell? ⟨w1.heap.size, 0, none⟩ = some (.slice (some ⟨gb, 0, none⟩) LB cb) ∧ u.cell? ⟨w1.heap.size, 1, none⟩ = some (.slice (some ⟨gr, 0, none⟩) l.length cr) ∧ u.cell? ⟨gr, k * 4, none⟩ = some (.int .i64 at_))
        (first
          | with_reducible exact ⟨Keeps.drew (Keeps.refl _ _), cellD y0, cellD y1, cellD z0⟩
          | ((try go_split_ands); refine ⟨?_, ?_, ?_, ?_⟩; all_goals (first
              | with_reducible assumption
              | (with_reducible refine Keeps.alloc ?_ _; with_reducible assumption)
              | (with_reducible refine cellA _ ?_; with_reducible assumption)
              | (with_reducible refine Keeps.trans ?_ hk2; with_reducible assumption)
              | with_reducible exact Keeps.alloc hkw _
              | with_reducible exact Keeps.drew (Keeps.alloc (Keeps.refl _ wr) _)
              | (with_reducible refine cellD ?_; with_reducible refine cellA _ ?_; with_reducible assumption)
              | (with_reducible refine cellK (F := fun _ => False) hk2 id ?_; with_reducible assumption)
              | (repeat (with_reducible refine Keeps.setCell ?_ (fun h => absurd h (Nat.lt_irrefl _)) _)); with_reducible assumption
              | (repeat (with_reducible refine cellS ?_ (by omega))); with_reducible assumption)))
        (first
          | (go_at_call 38; (with_reducible refine (HDC.out _ ?_).mono ?_); (go_split_ands; assumption); rintro e w2 ⟨rfl, hk2⟩; (first | have hkw : Same wr w2 := Keeps.trans ((Keeps.refl _ wr).drew) hk2 | have hkw : Same wr w2 := Keeps.trans (((Keeps.refl _ wr).alloc _).drew) hk2); have hw0 := cellK (F := fun _ => False) hkw id y0; have hw1 := cellK (F := fun _ => False) hkw id y1; have hw2 := cellK (F := fun _ => False) hkw id z0; (try (have hX2 := hk2.get (block_new wr (.cells #[.int .u8 0, .int .u8 0, .int .u8 0, .int .i32 0] 55)) id; have a0 : w2.cell? ⟨wr.heap.size, 0, none⟩ = some (.int .u8 0) := cell_of hX2 0; have a1 : w2.cell? ⟨wr.heap.size, 1, none⟩ = some (.int .u8 0) := cell_of hX2 1; have a2 : w2.cell? ⟨wr.heap.size, 2, none⟩ = some (.int .u8 0) := cell_of hX2 2; have a3 : w2.cell? ⟨wr.heap.size, 3, none⟩ = some (.int .i32 0) := cell_of hX2 3; have f0 := frozen_of hX2 0; have f1 := frozen_of hX2 1; have f2 := frozen_of hX2 2; have f3 := frozen_of hX2 3; clear hX2)); simp only [decV, inA]))
      all_goals
        go_split_ands
        have b4 : w2.cell? ⟨w.heap.size, 4, none⟩ = some (.int .i64 b.fin) := cellK (F := fun _ => False) hkw id (HBF.out 4)
        have hzw := hkw.size
        have hl2 : w.heap.size < w2.heap.size := by omega
        have hl3 : w.heap.size < wr.heap.size := by omega
        have hl4 : w2.heap.size ≠ w.heap.size := by omega
        have hl5 : wr.heap.size ≠ w.heap.size := by omega
        have hp64 : (op == 64) = false := by simpa using s3
        rcases (show op ≤ 0 ∨ (4 ≤ op ∧ op < 64) ∨ (65 ≤ op ∧ op ≤ 71) ∨ 112 ≤ op by omega) with h | ⟨h, h'⟩ | ⟨h, h'⟩ | h
        · have t1 : ¬ 1 ≤ op := by omega
          have t2 : ¬ 65 ≤ op := by omega
          have t3 : ¬ 72 ≤ op := by omega
          go_wp2
          go_roundw
          case rel => exact ⟨k + 1, by go_num, by omega, Keeps.trans HS.out (by assumption), Keeps.get (F := fun _ => False) (w := wr) (by assumption) HB.out id⟩
          case measure => simp [intOf]; omega
        · have t1 : 1 ≤ op := by omega
          have t2 : ¬ op ≤ 3 := by omega
          have t3 : ¬ 72 ≤ op := by omega
          have t4 : ¬ 65 ≤ op := by omega
          go_wp2
          go_roundw
          case rel => exact ⟨k + 1, by go_num, by omega, Keeps.trans HS.out (by assumption), Keeps.get (F := fun _ => False) (w := wr) (by assumption) HB.out id⟩
          case measure => simp [intOf]; omega
        · obtain ⟨hf3, rfl⟩ := s4 ⟨h, h'⟩
          have t0 : (b.fin != 3) = false := by simp [hf3]
          clear hf3 s4
          have t1 : 1 ≤ op := by omega
          have t2 : ¬ op ≤ 3 := by omega
          have t3 : ¬ 72 ≤ op := by omega
          go_wp2
          go_roundw
          case rel => exact ⟨k + 1, by go_num, by omega, Keeps.trans HS.out (by assumption), Keeps.get (F := fun _ => False) (w := wr) (by assumption) HB.out id⟩
          case measure => simp [intOf]; omega
        · have t1 : 1 ≤ op := by omega
          have t2 : ¬ op ≤ 3 := by omega
          have t3 : 72 ≤ op := by omega
          have t4 : ¬ op < 112 := by omega
          have t5 : 65 ≤ op := by omega
          have t6 : ¬ op ≤ 71 := by omega
          go_wp2
          go_roundw
          case rel => exact ⟨k + 1, by go_num, by omega, Keeps.trans HS.out (by assumption), Keeps.get (F := fun _ => False) (w := wr) (by assumption) HB.out id⟩
          case measure => simp [intOf]; omega
    · obtain rfl : k = l.length := by omega
      go_wp2_with fail
      refine (H3.out _).mono ?_
      rintro e w2 ⟨rfl, hk2⟩
      go_wp2
      go_ret
      exact ⟨rfl, same_below (((((Keeps.refl _ _).alloc _).trans HK1.out).trans HS.out).trans hk2)⟩
theorem translateSafe_walk (w : World) (s0 : Array Value) (h0 : RdV Try.prog w 41 s0.toList) (x1 : Int) (h1 : RdV Try.prog w 5 [.int .u8 x1]) :
    Calls Try.prog 14 #[.agg s0, .int .u8 x1] w fun e w' => e = .returned (.bool true) ∧ Below w.heap.size w w' := by
  obtain ⟨b, rfl, hb⟩ := bk_open h0
  obtain ⟨_, hx, l0, m0⟩ := RdV.int (k := .u8) h1 Try.underlying5
  cases hx
  simp [IntKind.min, IntKind.max, IntKind.bits, IntKind.signed] at l0 m0
  cases hm : mayBlk b
  · exact safe_no w b x1 hb l0 (by omega) hm
  · exact safe_yes w b x1 hb l0 (by omega) hm
end Go.Proofs.Ytdchhkdgcjnhpaa
