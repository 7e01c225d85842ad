/- The walk of the law's works; two codes that are the same. -/
import Derived.Test.YtdchhkdgcjnhpaaTrans
namespace Go.Proofs.Ytdchhkdgcjnhpaa
open Go.RowKit

def wX (k : Nat) : In := if k = 0 then ⟨25, 1, 2, 0⟩ else ⟨65, 0, 0, 4⟩
def wY (k : Nat) : Int := if k = 0 then 8 else 10
def wB (S S2 : Nat) : Bk := ⟨some ⟨S, 0, none⟩, 2, 2, some ⟨S2, 0, none⟩, 2, 2, 13, 17, 3, .slice none 0 0, .slice none 0 0, wX, wY⟩
theorem wB_ok (w : World) (S S2 : Nat) (h1 : w.heap[S]? = some (.cells #[.int .u8 25, .int .u8 1, .int .u8 2, .int .i32 0, .int .u8 65, .int .u8 0, .int .u8 0, .int .i32 4] 55 (0, 0))) (h2 : w.heap[S2]? = some (.cells #[.int .u32 8, .int .u32 10] 38 (0, 0))) : (wB S S2).Ok w := by
  have c1 := cell_of h1
  have c2 := cell_of h2
  refine ⟨.inr ⟨S, 0, rfl, lt_of_block h1, fun k hk => ?_⟩, .inr ⟨S2, 0, rfl, lt_of_block h2, fun k hk => ?_⟩, by simp [wB], by simp [wB], by simp [wB], by simp [wB], by simp [wB], by simp [wB], by simp [wB], by simp [wB], by simp [wB], by simp [wB]⟩
  · have hk' : k < 2 := hk
    rcases (show k = 0 ∨ k = 1 by omega) with rfl | rfl
    · exact ⟨⟨by simp [wB, wX], by simp [wB, wX], by simp [wB, wX], by simp [wB, wX], by simp [wB, wX], by simp [wB, wX], by simp [wB, wX], by simp [wB, wX]⟩, by rw [c1]; rfl, by rw [c1]; rfl, by rw [c1]; rfl, by rw [c1]; rfl⟩
    · exact ⟨⟨by simp [wB, wX], by simp [wB, wX], by simp [wB, wX], by simp [wB, wX], by simp [wB, wX], by simp [wB, wX], by simp [wB, wX], by simp [wB, wX]⟩, by rw [c1]; rfl, by rw [c1]; rfl, by rw [c1]; rfl, by rw [c1]; rfl⟩
  · have hk' : k < 2 := hk
    rcases (show k = 0 ∨ k = 1 by omega) with rfl | rfl
    · exact ⟨by simp [wB, wY], by simp [wB, wY], by rw [c2]; rfl⟩
    · exact ⟨by simp [wB, wY], by simp [wB, wY], by rw [c2]; rfl⟩
theorem wB_may (S S2 : Nat) : mayBlk (wB S S2) = true := by
  have : mayBlk (wB 0 0) = true := by decide +kernel
  exact this
theorem wB_tr (S S2 : Nat) : (trC (wB S S2) 6).1 = [25, 18, 65, 5, 0, 112, 2, 113, 6, 0, 112, 2, 113, 7, 0] ∧ (trC (wB S S2) 6).2.length = 6 := by
  have : (trC (wB 0 0) 6).1 = [25, 18, 65, 5, 0, 112, 2, 113, 6, 0, 112, 2, 113, 7, 0] ∧ (trC (wB 0 0) 6).2.length = 6 := by decide +kernel
  exact this
set_option maxHeartbeats 1000000 in
set_option maxRecDepth 100000 in
theorem works_20 (w : World) : Calls Try.prog 29 #[] w fun e w' => e = .returned (.bool true) ∧ Same w w' := by
  go_enter Try.func29, Try.ntmps29
  go_wp2_with fail
  refine (trans_yes (wB w.heap.size (w.heap.size + 1)) 6 _ (wB_ok _ _ _ (block_old _ (block_new _ _)) (block_at _ (by simp))) (wB_may _ _) (by decide) (by decide)).mono ?_
  rintro e w1 ⟨bv, rv, rfl, hb, hr, hk⟩
  have hlen := (wB_tr w.heap.size (w.heap.size + 1)).2
  rw [(wB_tr w.heap.size (w.heap.size + 1)).1] at hb
  obtain ⟨ar, cr, rfl⟩ := owns_slice hr
  rw [hlen] at *
  obtain ⟨ab, cb, rfl⟩ := owns_slice hb
  have hcv : ∀ w', RowB w' w.heap.size (.slice ab (([25, 18, 65, 5, 0, 112, 2, 113, 6, 0, 112, 2, 113, 7, 0] : List Int)).length cb) [25, 18, 65, 5, 0, 112, 2, 113, 6, 0, 112, 2, 113, 7, 0] → (convert 22 9 (.slice ab (([25, 18, 65, 5, 0, 112, 2, 113, 6, 0, 112, 2, 113, 7, 0] : List Int)).length cb)).run Try.prog w' = .ok (.string ⟨#[25, 18, 65, 5, 0, 112, 2, 113, 6, 0, 112, 2, 113, 7, 0]⟩) w' := fun w' h => by
    rw [row_conv h]
    congr 3
  have hb2 := hcv _ (World.ownsRow.alloc (owns_mono hb (by simp; omega)) (.cells #[.slice ab 15 cb, .slice ar 6 cr] 45))
  have HK := hidE hk
  clear hk hcv hb hr hlen
  simp only [List.length_cons, List.length_nil, Nat.zero_add, Nat.reduceAdd] at hb2 ⊢
  go_wp2
  go_ret
  exact ⟨rfl, (((Keeps.refl _ _).alloc _).alloc _).trans (HK.out.alloc _)⟩
theorem rwsC_get : ∀ (rs : List Rw) (k : Nat) (r : Rw), rs[k]? = some r → (rwsC rs)[k * 4]? = some (.int .i64 r.off) ∧ (rwsC rs)[k * 4 + 1]? = some (.int .u32 r.pc) ∧ (rwsC rs)[k * 4 + 2]? = some (.int .i64 r.dn) ∧ (rwsC rs)[k * 4 + 3]? = some (.int .i64 r.ex)
  | [], k, r, h => by simp at h
  | a :: rs, 0, r, h => by
    simp at h
    subst h
    simp [rwsC, rwC]
  | a :: rs, k + 1, r, h => by
    have ih := rwsC_get rs k r (by simpa using h)
    have e : ∀ j, (rwsC (a :: rs))[(k + 1) * 4 + j]? = (rwsC rs)[k * 4 + j]? := fun j => by
      have : rwsC (a :: rs) = rwC a ++ rwsC rs := by simp [rwsC]
      rw [this, List.getElem?_append_right (by simp [rwC]; omega)]
      congr 1
      simp [rwC]; omega
    have e0 := e 0
    simp only [Nat.add_zero] at e0
    rw [e0, e 1, e 2, e 3]
    exact ih
/-- A row's cells. -/
theorem rowR_cells {w : World} {B : Nat} {v : Value} {rs : List Rw} (h : RowR w B v rs) {k : Nat} {r : Rw} (hk : rs[k]? = some r) : ∃ g c, v = .slice (some ⟨g, 0, none⟩) rs.length c ∧ w.cell? ⟨g, k * 4, none⟩ = some (.int .i64 r.off) ∧ w.cell? ⟨g, k * 4 + 1, none⟩ = some (.int .u32 r.pc) ∧ w.cell? ⟨g, k * 4 + 2, none⟩ = some (.int .i64 r.dn) ∧ w.cell? ⟨g, k * 4 + 3, none⟩ = some (.int .i64 r.ex) := by
  have hlt : k < rs.length := by
    rcases Nat.lt_or_ge k rs.length with h | h
    · exact h
    · simp [List.getElem?_eq_none h] at hk
  obtain ⟨g, c, rfl, -, -⟩ := World.ownsRow.form h (by omega)
  obtain ⟨h0, h1, h2, h3⟩ := rwsC_get rs k r hk
  exact ⟨g, c, rfl, by rw [World.ownsRow.cellAt h _ (by omega), h0], by rw [World.ownsRow.cellAt h _ (by omega), h1], by rw [World.ownsRow.cellAt h _ (by omega), h2], by rw [World.ownsRow.cellAt h _ (by omega), h3]⟩
set_option maxHeartbeats 1000000 in
set_option maxRecDepth 100000 in
theorem same_yes (w : World) (B1 B2 B3 B4 : Nat) (b1 r1 b2 r2 : Value) (bs : List Int) (rs : List Rw) (h1 : RowB w B1 b1 bs) (h2 : RowR w B2 r1 rs) (h3 : RowB w B3 b2 bs) (h4 : RowR w B4 r2 rs) (hl : rs.length ≤ 5000) :
    Calls Try.prog 31 #[.agg #[b1, r1], .agg #[b2, r2]] w fun e w' => e = .returned (.bool true) ∧ Same w w' := by
  obtain ⟨a1, c1, rfl⟩ := owns_slice h1
  obtain ⟨a2, c2, rfl⟩ := owns_slice h2
  obtain ⟨a3, c3, rfl⟩ := owns_slice h3
  obtain ⟨a4, c4, rfl⟩ := owns_slice h4
  have HR := hidE h2
  have HR4 := hidE h4
  have k1 := row_conv (World.ownsRow.alloc (World.ownsRow.alloc h1 (.cells #[.slice a1 bs.length c1, .slice a2 rs.length c2] 45)) (.cells #[.slice a3 bs.length c3, .slice a4 rs.length c4] 45))
  have k2 := row_conv (World.ownsRow.alloc (World.ownsRow.alloc h3 (.cells #[.slice a1 bs.length c1, .slice a2 rs.length c2] 45)) (.cells #[.slice a3 bs.length c3, .slice a4 rs.length c4] 45))
  clear h1 h2 h3 h4
  go_enter Try.func31, Try.ntmps31
  go_wp2_with fail
  have HK0 : Hid (Same w ((w.alloc (.cells #[.slice a1 bs.length c1, .slice a2 rs.length c2] 45)).alloc (.cells #[.slice a3 bs.length c3, .slice a4 rs.length c4] 45))) := hidE (((Keeps.refl _ _).alloc _).alloc _)
  clear k1 k2
  go_loopw [5] (fun t5 wr => ∃ k : Nat, t5 = .int .i64 k ∧ k ≤ rs.length ∧ Same w wr ∧ wr.heap[w.heap.size]? = some (.cells #[.slice a1 bs.length c1, .slice a2 rs.length c2] 45 (0, 0)) ∧ wr.heap[w.heap.size + 1]? = some (.cells #[.slice a3 bs.length c3, .slice a4 rs.length c4] 45 (0, 0))) (fun t5 _ => (rs.length - intOf t5).toNat)
  case atStart => exact ⟨0, rfl, by omega, HK0.out, block_old _ (block_new _ _), block_at _ (by simp)⟩
  case round =>
    obtain ⟨k, rfl, hk, hs, hb1, hb2⟩ := hrel
    have q1 := cell_of hb1
    have q2 := cell_of hb2
    have HS := hidE hs
    have HB1 := hidE hb1
    have HB2 := hidE hb2
    clear hs hb1 hb2 HK0
    by_cases hlt : k < rs.length
    · obtain ⟨g, c, e1, x0, x1, x2, x3⟩ := rowR_cells HR.out (List.getElem?_eq_getElem hlt)
      obtain ⟨g', c', e2, y0, y1, y2, y3⟩ := rowR_cells HR4.out (List.getElem?_eq_getElem hlt)
      simp only [Value.slice.injEq] at e1 e2
      obtain ⟨rfl, -, rfl⟩ := e1
      obtain ⟨rfl, -, rfl⟩ := e2
      have z0 := cellK (F := fun _ => False) HS.out id x0
      have z1 := cellK (F := fun _ => False) HS.out id x1
      have z2 := cellK (F := fun _ => False) HS.out id x2
      have z3 := cellK (F := fun _ => False) HS.out id x3
      have t0 := cellK (F := fun _ => False) HS.out id y0
      have t1 := cellK (F := fun _ => False) HS.out id y1
      have t2 := cellK (F := fun _ => False) HS.out id y2
      have t3 := cellK (F := fun _ => False) HS.out id y3
      generalize rs[k] = r at *
      have qa : (0 : Int) ≤ k := by omega
      have qb : (k : Int) < rs.length := by omega
      clear x0 x1 x2 x3 y0 y1 y2 y3
      go_wp2_with fail
      go_quiet (fail)
      go_wp2
      go_roundw
      case rel => exact ⟨k + 1, by go_num, by omega, HS.out.drewN _, HB1.out, HB2.out⟩
      case measure => simp [intOf]; omega
    · obtain rfl : k = rs.length := by omega
      go_wp2
      go_ret
      exact ⟨rfl, HS.out⟩
end Go.Proofs.Ytdchhkdgcjnhpaa
