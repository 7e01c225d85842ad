/- The walk of the statement TranslateMays. -/
import Derived.Test.YtdchhkdgcjnhpaaWorks20
import Derived.Deep.RegionHeld3
namespace Go.Proofs.Ytdchhkdgcjnhpaa
open Go.RowKit

set_option maxHeartbeats 2000000 in
set_option maxRecDepth 100000 in
theorem translateMays_walk (w : World) (s0 : Array Value) (h0 : RdV Try.prog w 41 s0.toList) :
    Calls Try.prog 7 #[.agg s0] w fun e w' => e = .returned (.bool true) ∧ Below w.heap.size w w' := by
  obtain ⟨b, rfl, hb⟩ := bk_open h0
  clear h0
  have H1 := hidE (fun (w' : World) (hk : Same w w') => mayT_any b w' (hb.keeps hk))
  have H2 := hidE (fun (w' : World) (hk : Same w w') => mayR_any b w' (hb.keeps hk))
  have H3 := hidE works_20
  generalize mayBlk b = M at *
  clear hb
  simp only [bkA] at *
  have hk0 : ∀ o, Same w (w.alloc o).drew := fun o => ((Keeps.refl _ _).alloc o).drew
  have cB := cell_of (block_new w (.cells #[.slice b.ia b.n b.cn, .slice b.aa b.m b.cm, .int .u32 b.next, .int .u32 b.to, .int .i64 b.fin, b.fr, b.tb] 41))
  have C := hidE cB
  clear cB
  go_enter Try.func7, Try.ntmps7
  go_wp2_with fail
  go_region_held3 (fun u => Same w u ∧ u.cell? ⟨w.heap.size, 0, none⟩ = some (.slice b.ia b.n b.cn) ∧ u.cell? ⟨w.heap.size, 1, none⟩ = some (.slice b.aa b.m b.cm) ∧ u.cell? ⟨w.heap.size, 2, none⟩ = some (.int .u32 b.next) ∧ u.cell? ⟨w.heap.size, 3, none⟩ = some (.int .u32 b.to) ∧ u.cell? ⟨w.heap.size, 4, none⟩ = some (.int .i64 b.fin) ∧ u.cell? ⟨w.heap.size, 5, none⟩ = some b.fr ∧ u.cell? ⟨w.heap.size, 6, none⟩ = some b.tb)
    (first
      | (go_split_ands; exact ⟨Keeps.trans (by assumption) hk, cellK (F := fun _ => False) hk id (by assumption), cellK (F := fun _ => False) hk id (by assumption), cellK (F := fun _ => False) hk id (by assumption), cellK (F := fun _ => False) hk id (by assumption), cellK (F := fun _ => False) hk id (by assumption), cellK (F := fun _ => False) hk id (by assumption), cellK (F := fun _ => False) hk id (by assumption)⟩)
      | exact ⟨hk0 _, cellD (C.out 0), cellD (C.out 1), cellD (C.out 2), cellD (C.out 3), cellD (C.out 4), cellD (C.out 5), cellD (C.out 6)⟩)
    (first
      | (go_at_call 27; refine (H1.out _ ?_).mono ?_; (go_split_ands; assumption); rintro e w1 ⟨rfl, hk⟩)
      | (go_at_call 28; refine (H2.out _ ?_).mono ?_; (go_split_ands; assumption); rintro e w1 ⟨rfl, hk⟩)
      | (go_at_call 29; refine (H3.out _).mono ?_; rintro e w1 ⟨rfl, hk⟩))
  all_goals go_wp2
  all_goals go_ret
  all_goals exact ⟨rfl, same_below (by go_split_ands; assumption)⟩
end Go.Proofs.Ytdchhkdgcjnhpaa
