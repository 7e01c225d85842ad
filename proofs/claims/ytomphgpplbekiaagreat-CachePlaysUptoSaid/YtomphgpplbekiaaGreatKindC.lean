/- Package kind: the whole table. Printed by wip/gen_fill.py. -/
import Derived.Test.YtomphgpplbekiaaGreatKind
namespace Go.Proofs.YtomphgpplbekiaaGreat
open Go.RowKit

structure FS (w wr : World) (tb : Nat) (A : Array Value) (n : Nat) (M : Int → Kn) : Prop where
  hk : Keeps (fun k => k = tb) w wr
  hM : KMap wr (w.heap.size + 1) n M
  hp : wr.heap[w.heap.size]? = some (.cells #[.pointer (some ⟨tb, 0, none⟩)] 183 (0, 0))
  ht : wr.heap[tb]? = some (.cells A 225 (0, 0))
  hs : w.heap.size + 1 < wr.heap.size
theorem fill_row {w wr : World} {tb n : Nat} {A : Array Value} {M : Int → Kn} (h : Hid (FS w wr tb A n M)) (hA : A[4]? = some (.map (some (w.heap.size + 1)))) (htb : tb < w.heap.size) (xs : List Int) (x : Kn) (hb : ∀ y ∈ xs, 0 ≤ y ∧ y < 256) (hn : n + xs.length < 1000) (S : Nat) (hsz : wr.heap.size = S) :
    Calls Tryz.prog 144 #[knV x, .slice (some ⟨S, 0, none⟩) xs.length xs.length, .pointer (some ⟨w.heap.size, 0, none⟩)] (wr.alloc (.cells (xs.map (Value.int .u8)).toArray 5)) fun e w' => e = .returned (.tuple #[]) ∧ Hid (FS w w' tb A (n + xs.length) (rowK M xs x)) := by
  subst hsz
  obtain ⟨h1, h2, h3, h4, h5⟩ := h
  refine (fill1_any _ (w.heap.size + 1) wr.heap.size n xs.length _ w.heap.size tb A M xs x rfl hn hb (h2.keeps ((Keeps.refl (fun _ => False) _).alloc _) id) (block_new _ _) (block_old _ h3) (block_old _ h4) hA (by omega) (by omega) (by omega) (by simp; omega)).mono ?_
  rintro e w' ⟨rfl, hk, hM⟩
  refine ⟨rfl, ⟨?_, hM, hk.get (block_old _ h3) (by omega), hk.get (block_old _ h4) (by omega), Nat.lt_of_lt_of_le h5 (Nat.le_trans (by simp) hk.size)⟩⟩
  have hk2 := (Keeps.refl (fun k => k = w.heap.size + 1) wr).alloc (.cells (xs.map (Value.int .u8)).toArray 5) |>.trans hk
  exact ⟨hk2.os.trans h1.os, hk2.tape.trans h1.tape, hk2.output.trans h1.output, Nat.le_trans h1.size hk2.size, fun i hi hF => (hk2.block i (Nat.lt_of_lt_of_le hi h1.size) (by omega)).trans (h1.block i hi hF)⟩
/-- The table's rows. -/
def kindRows : List (List Int × Kn) := [([0], (1, ⟨#[]⟩)), ([16], (1, ⟨#[98, 65]⟩)), ([17, 18, 19, 20, 21, 22, 23, 24, 27, 28, 29], (1, ⟨#[97, 98, 65, 102]⟩)), ([25, 30], (1, ⟨#[97, 98, 65, 102, 120]⟩)), ([26, 31], (1, ⟨#[97, 98, 102]⟩)), ([32], (1, ⟨#[65]⟩)), ([33], (1, ⟨#[97, 65, 102]⟩)), ([48, 50, 52, 54, 55], (2, ⟨#[98, 65, 120]⟩)), ([49, 51, 53], (2, ⟨#[97, 98, 120]⟩)), ([56], (2, ⟨#[97, 112, 80, 120]⟩)), ([57], (2, ⟨#[112, 65, 80, 120]⟩)), ([58], (2, ⟨#[97, 98, 65, 120]⟩)), ([64, 65, 66, 67, 68, 69, 70, 71], (3, ⟨#[]⟩)), ([72], (3, ⟨#[76]⟩)), ([73], (3, ⟨#[97]⟩)), ([74], (3, ⟨#[97, 76]⟩)), ([80], (3, ⟨#[120]⟩)), ([1], (4, ⟨#[120]⟩)), ([2], (4, ⟨#[102, 115]⟩)), ([3], (4, ⟨#[115]⟩)), ([96, 98], (4, ⟨#[65, 115]⟩)), ([97], (4, ⟨#[97, 102, 115]⟩)), ([99, 101], (4, ⟨#[97, 120]⟩)), ([100], (4, ⟨#[65, 120]⟩)), ([112, 113], (5, ⟨#[]⟩))]
/-- What the table says. -/
def kindM : Int → Kn := kindRows.foldl (fun M r => rowK M r.1 r.2) (fun _ => (0, ⟨#[]⟩))
theorem u8s (xs : List Int) (h : (xs.all fun y => decide (0 ≤ y ∧ y < 256)) = true) : ∀ y ∈ xs, 0 ≤ y ∧ y < 256 := fun y hy => by
  have := List.all_eq_true.1 h y hy
  simpa using this
set_option maxHeartbeats 16000000 in
set_option maxRecDepth 100000 in
theorem fill_any (w : World) (tb : Nat) (d i s : Int) (ht : w.heap[tb]? = some (.cells #[.bool true, .int .u32 d, .int .i32 i, .int .u32 s, .map none] 225 (0, 0))) :
    Calls Tryz.prog 137 #[.pointer (some ⟨tb, 0, none⟩)] w fun e w' => e = .returned (.tuple #[]) ∧ FS w w' tb #[.bool true, .int .u32 d, .int .i32 i, .int .u32 s, .map (some (w.heap.size + 1))] 53 kindM := by
  have htb := lt_of_block ht
  have ct := cell_of (block_old (.map #[] 0) (block_old (.cells #[.pointer (some ⟨tb, 0, none⟩)] 183) ht))
  have ft := frozen_of (block_old (.map #[] 0) (block_old (.cells #[.pointer (some ⟨tb, 0, none⟩)] 183) ht))
  have H0 : Hid (FS w (((w.setCell ⟨tb, 4, none⟩ (.map (some (w.heap.size + 1)))).alloc (.cells #[.pointer (some ⟨tb, 0, none⟩)] 183)).alloc (.map #[] 0)) tb #[.bool true, .int .u32 d, .int .i32 i, .int .u32 s, .map (some (w.heap.size + 1))] 0 (fun _ => (0, ⟨#[]⟩))) := by
    have hm := KMap.made ((w.setCell ⟨tb, 4, none⟩ (.map (some (w.heap.size + 1)))).alloc (.cells #[.pointer (some ⟨tb, 0, none⟩)] 183))
    have hz : (w.setCell ⟨tb, 4, none⟩ (.map (some (w.heap.size + 1)))).heap.size = w.heap.size := by simp [World.setCell]
    have hn := block_new (w.setCell ⟨tb, 4, none⟩ (.map (some (w.heap.size + 1)))) (.cells #[.pointer (some ⟨tb, 0, none⟩)] 183)
    rw [World.size_alloc, hz] at hm
    rw [hz] at hn
    refine ⟨((Keeps.setCell (F := fun k => k = tb) (Keeps.refl _ _) (p := ⟨tb, 4, none⟩) (fun _ => rfl) _).alloc _).alloc _, hm, block_old _ hn, block_old _ (block_old _ ?_), by rw [World.size_alloc, World.size_alloc, hz]; omega⟩
    simpa using block_set ht 4 (.map (some (w.heap.size + 1)))
  clear ht
  have hmk : ∀ w : World, (Instr.makeMap 223 none).run Tryz.prog w = .ok (.map (some w.heap.size)) (w.alloc (.map #[] 0)) := fun _ => rfl
  go_enter Tryz.func137, Tryz.ntmps137
  go_wp2_with fail
  clear ct ft
  refine (fill_row H0 rfl htb [0] (1, ⟨#[]⟩) (u8s _ (by decide)) (by decide) _ (by simp [World.setCell])).mono ?_
  clear H0
  rintro e w1 ⟨rfl, H0⟩
  go_wp2_with fail
  refine (fill_row H0 rfl htb [16] (1, ⟨#[98, 65]⟩) (u8s _ (by decide)) (by decide) _ rfl).mono ?_
  clear H0
  rintro e w1 ⟨rfl, H0⟩
  go_wp2_with fail
  refine (fill_row H0 rfl htb [17, 18, 19, 20, 21, 22, 23, 24, 27, 28, 29] (1, ⟨#[97, 98, 65, 102]⟩) (u8s _ (by decide)) (by decide) _ rfl).mono ?_
  clear H0
  rintro e w1 ⟨rfl, H0⟩
  go_wp2_with fail
  refine (fill_row H0 rfl htb [25, 30] (1, ⟨#[97, 98, 65, 102, 120]⟩) (u8s _ (by decide)) (by decide) _ rfl).mono ?_
  clear H0
  rintro e w1 ⟨rfl, H0⟩
  go_wp2_with fail
  refine (fill_row H0 rfl htb [26, 31] (1, ⟨#[97, 98, 102]⟩) (u8s _ (by decide)) (by decide) _ rfl).mono ?_
  clear H0
  rintro e w1 ⟨rfl, H0⟩
  go_wp2_with fail
  refine (fill_row H0 rfl htb [32] (1, ⟨#[65]⟩) (u8s _ (by decide)) (by decide) _ rfl).mono ?_
  clear H0
  rintro e w1 ⟨rfl, H0⟩
  go_wp2_with fail
  refine (fill_row H0 rfl htb [33] (1, ⟨#[97, 65, 102]⟩) (u8s _ (by decide)) (by decide) _ rfl).mono ?_
  clear H0
  rintro e w1 ⟨rfl, H0⟩
  go_wp2_with fail
  refine (fill_row H0 rfl htb [48, 50, 52, 54, 55] (2, ⟨#[98, 65, 120]⟩) (u8s _ (by decide)) (by decide) _ rfl).mono ?_
  clear H0
  rintro e w1 ⟨rfl, H0⟩
  go_wp2_with fail
  refine (fill_row H0 rfl htb [49, 51, 53] (2, ⟨#[97, 98, 120]⟩) (u8s _ (by decide)) (by decide) _ rfl).mono ?_
  clear H0
  rintro e w1 ⟨rfl, H0⟩
  go_wp2_with fail
  refine (fill_row H0 rfl htb [56] (2, ⟨#[97, 112, 80, 120]⟩) (u8s _ (by decide)) (by decide) _ rfl).mono ?_
  clear H0
  rintro e w1 ⟨rfl, H0⟩
  go_wp2_with fail
  refine (fill_row H0 rfl htb [57] (2, ⟨#[112, 65, 80, 120]⟩) (u8s _ (by decide)) (by decide) _ rfl).mono ?_
  clear H0
  rintro e w1 ⟨rfl, H0⟩
  go_wp2_with fail
  refine (fill_row H0 rfl htb [58] (2, ⟨#[97, 98, 65, 120]⟩) (u8s _ (by decide)) (by decide) _ rfl).mono ?_
  clear H0
  rintro e w1 ⟨rfl, H0⟩
  go_wp2_with fail
  refine (fill_row H0 rfl htb [64, 65, 66, 67, 68, 69, 70, 71] (3, ⟨#[]⟩) (u8s _ (by decide)) (by decide) _ rfl).mono ?_
  clear H0
  rintro e w1 ⟨rfl, H0⟩
  go_wp2_with fail
  refine (fill_row H0 rfl htb [72] (3, ⟨#[76]⟩) (u8s _ (by decide)) (by decide) _ rfl).mono ?_
  clear H0
  rintro e w1 ⟨rfl, H0⟩
  go_wp2_with fail
  refine (fill_row H0 rfl htb [73] (3, ⟨#[97]⟩) (u8s _ (by decide)) (by decide) _ rfl).mono ?_
  clear H0
  rintro e w1 ⟨rfl, H0⟩
  go_wp2_with fail
  refine (fill_row H0 rfl htb [74] (3, ⟨#[97, 76]⟩) (u8s _ (by decide)) (by decide) _ rfl).mono ?_
  clear H0
  rintro e w1 ⟨rfl, H0⟩
  go_wp2_with fail
  refine (fill_row H0 rfl htb [80] (3, ⟨#[120]⟩) (u8s _ (by decide)) (by decide) _ rfl).mono ?_
  clear H0
  rintro e w1 ⟨rfl, H0⟩
  go_wp2_with fail
  refine (fill_row H0 rfl htb [1] (4, ⟨#[120]⟩) (u8s _ (by decide)) (by decide) _ rfl).mono ?_
  clear H0
  rintro e w1 ⟨rfl, H0⟩
  go_wp2_with fail
  refine (fill_row H0 rfl htb [2] (4, ⟨#[102, 115]⟩) (u8s _ (by decide)) (by decide) _ rfl).mono ?_
  clear H0
  rintro e w1 ⟨rfl, H0⟩
  go_wp2_with fail
  refine (fill_row H0 rfl htb [3] (4, ⟨#[115]⟩) (u8s _ (by decide)) (by decide) _ rfl).mono ?_
  clear H0
  rintro e w1 ⟨rfl, H0⟩
  go_wp2_with fail
  refine (fill_row H0 rfl htb [96, 98] (4, ⟨#[65, 115]⟩) (u8s _ (by decide)) (by decide) _ rfl).mono ?_
  clear H0
  rintro e w1 ⟨rfl, H0⟩
  go_wp2_with fail
  refine (fill_row H0 rfl htb [97] (4, ⟨#[97, 102, 115]⟩) (u8s _ (by decide)) (by decide) _ rfl).mono ?_
  clear H0
  rintro e w1 ⟨rfl, H0⟩
  go_wp2_with fail
  refine (fill_row H0 rfl htb [99, 101] (4, ⟨#[97, 120]⟩) (u8s _ (by decide)) (by decide) _ rfl).mono ?_
  clear H0
  rintro e w1 ⟨rfl, H0⟩
  go_wp2_with fail
  refine (fill_row H0 rfl htb [100] (4, ⟨#[65, 120]⟩) (u8s _ (by decide)) (by decide) _ rfl).mono ?_
  clear H0
  rintro e w1 ⟨rfl, H0⟩
  go_wp2_with fail
  refine (fill_row H0 rfl htb [112, 113] (5, ⟨#[]⟩) (u8s _ (by decide)) (by decide) _ rfl).mono ?_
  clear H0
  rintro e w1 ⟨rfl, H0⟩
  go_wp2
  go_end0
  exact ⟨rfl, H0⟩
end Go.Proofs.YtomphgpplbekiaaGreat
