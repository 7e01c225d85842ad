/- Package kind: the table's filling. -/
import Derived.Test.YtjkjnomhggmplaaGreatKind
import Derived.StillTailTactics
import Derived.BigQuiet
namespace Go.Proofs.YtjkjnomhggmplaaGreat
open Go.RowKit

theorem rowK_take (M : Int → Kn) (xs : List Int) (x : Kn) (k : Nat) (y : Int) (h : xs[k]? = some y) : rowK M (xs.take (k + 1)) x = updK (rowK M (xs.take k) x) y x := by
  unfold rowK
  rw [List.take_add_one, h, List.foldl_append]
  rfl
set_option maxHeartbeats 2000000 in
set_option maxRecDepth 100000 in
theorem fill1_any (w : World) (r S n l c : Nat) (p : Nat) (tb : Nat) (A : Array Value) (M : Int → Kn) (xs : List Int) (x : Kn) (hl : xs.length = l) (hn : n + l < 1000) (hb : ∀ y ∈ xs, 0 ≤ y ∧ y < 256)
    (hM : KMap w r n M) (hS : w.heap[S]? = some (.cells (xs.map (Value.int .u8)).toArray 5 (0, 0))) (hp : w.heap[p]? = some (.cells #[.pointer (some ⟨tb, 0, none⟩)] 64 (0, 0)))
    (ht : w.heap[tb]? = some (.cells A 127 (0, 0))) (hA : A[4]? = some (.map (some r))) (hrp : r ≠ p) (hrS : r ≠ S) (hrt : r ≠ tb) (hrw : r < w.heap.size) :
    Calls Tryz.prog 117 #[knV x, .slice (some ⟨S, 0, none⟩) l c, .pointer (some ⟨p, 0, none⟩)] w fun e w' => e = .returned (.tuple #[]) ∧ Keeps (fun k => k = r) w w' ∧ KMap w' r (n + l) (rowK M xs x) := by
  have hrel : FillRel w r S n ⟨p, 0, none⟩ ⟨tb, 0, none⟩ M xs x 0 (w.alloc (.cells #[.int .i64 x.1, .string x.2] 138)) :=
    ⟨(Keeps.refl _ _).alloc _, hM.keeps ((Keeps.refl (fun _ => False) _).alloc _) id, block_new _ _, block_old _ hS, by rw [cell_of (block_old _ hp)]; rfl, by rw [cell_of (block_old _ ht)]; simpa using hA⟩
  have HS := hidE  hrel
  clear hrel hM hS hp ht hA
  obtain ⟨x1, x2⟩ := x
  simp only [knV] at *
  subst hl
  go_enter Tryz.func117, Tryz.ntmps117
  go_wp2_with fail
  go_loopw [9] (fun t9 wr => ∃ k : Nat, t9 = .int .i64 k ∧ k ≤ xs.length ∧ FillRel w r S n ⟨p, 0, none⟩ ⟨tb, 0, none⟩ M xs (x1, x2) k wr) (fun t9 _ => (xs.length - intOf t9).toNat)
  case atStart => exact ⟨0, rfl, by omega, HS.out⟩
  case round =>
    obtain ⟨k, rfl, hk, hR⟩ := hrel
    have HR := hidE  hR
    obtain ⟨hK, hM, hx, hS, hp, ht⟩ := hR
    clear HS hK
    by_cases hlt : k < xs.length
    · obtain ⟨y, hy⟩ : ∃ y, xs[k]? = some y := ⟨_, List.getElem?_eq_getElem hlt⟩
      have hyb := hb y (List.mem_of_getElem? hy)
      have cS : wr.cell? ⟨S, k, none⟩ = some (.int .u8 y) := by rw [cell_of hS]; simp [hy]
      have cx := cell_of hx
      obtain ⟨w', hput, hM', hk'⟩ := KMap.put (w := wr.drew) (hM.keeps (Keeps.drew (Keeps.refl (fun _ => False) _)) id) (by omega) y hyb.1 hyb.2 (x1, x2)
      have hrl := lt_of_block hx
      have hnext : FillRel w r S n ⟨p, 0, none⟩ ⟨tb, 0, none⟩ M xs (x1, x2) (k + 1) w' := by
        obtain ⟨q1, -, q3, q4, q5, q6⟩ := HR.out
        have hk2 : Keeps (fun k => k = r) wr w' := ((Keeps.refl _ wr).drew).trans hk'
        refine ⟨q1.trans hk2, ?_, hk2.get q3 (by omega), hk2.get q4 (by omega), ?_, ?_⟩
        · rw [rowK_take _ _ _ _ _ hy]; exact hM'
        · rw [World.cell?_of_block (w := wr) (a := ⟨p, 0, none⟩) (hk2.block p (World.block_lt_of_cell? wr ⟨p, 0, none⟩ q5) (by omega))]; exact q5
        · rw [World.cell?_of_block (w := wr) (a := ⟨tb, 0 + 4, none⟩) (hk2.block tb (World.block_lt_of_cell? wr ⟨tb, 0 + 4, none⟩ q6) (by omega))]; exact q6
      have HN := hidE  hnext
      simp only [knV, Nat.zero_add] at *
      clear hnext hM' hk' hM hx hS hy HR
      go_wp2_with fail
      go_still_tail 6, (by kernel_rfl)
      change wpList _ _ _ _ _ wr.drew
      go_wp2
      go_roundw
      case rel => exact ⟨k + 1, by go_num, by omega, HN.out⟩
      case measure => simp [intOf]; omega
    · obtain rfl : k = xs.length := by omega
      clear hM hx hS
      go_wp2
      go_end0
      exact ⟨rfl, HR.out.1, by have h := HR.out.2.1; rwa [List.take_length] at h⟩
end Go.Proofs.YtjkjnomhggmplaaGreat
