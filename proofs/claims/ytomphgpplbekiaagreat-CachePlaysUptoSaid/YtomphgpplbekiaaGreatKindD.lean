/- Package kind: a table, new and filled. -/
import Derived.Test.YtomphgpplbekiaaGreatKindC
import Derived.Test.YtomphgpplbekiaaGreatOnce
import Derived.Test.YtomphgpplbekiaaGreatRes
namespace Go.Proofs.YtomphgpplbekiaaGreat
open Go.RowKit

def tabA (d i : Int) (m : Option Nat) : Array Value := #[.bool true, .int .u32 d, .int .i32 i, .int .u32 0, .map m]
def TabNew (w : World) (tb : Nat) : Prop := w.heap[tb]? = some (.cells (tabA 0 0 none) 225 (0, 0))
def TabHas (w : World) (tb : Nat) : Prop := ∃ r, w.heap[tb]? = some (.cells (tabA 1 0 (some r)) 225 (0, 0)) ∧ r ≠ tb ∧ KMap w r 100 kindM
theorem TabHas.keeps {F : Nat → Prop} {w w' : World} {tb : Nat} (h : TabHas w tb) (hk : Keeps F w w') (hF : ∀ b, ¬ F b) : TabHas w' tb := by
  obtain ⟨r, h1, h2, h3⟩ := h
  exact ⟨r, hk.get h1 (hF _), h2, h3.keeps hk (hF _)⟩
set_option maxRecDepth 100000 in
set_option maxHeartbeats 4000000 in
theorem slow_new (w : World) (tb : Nat) (ht : TabNew w tb) :
    Calls Tryz.prog 143 #[.pointer (some ⟨tb, 1, none⟩), .func (.func 137) #[.pointer (some ⟨tb, 0, none⟩)] #[]] w fun e w' => e = .returned (.tuple #[]) ∧ Keeps (fun k => k = tb) w w' ∧ TabHas w' tb := by
  unfold TabNew at ht
  have c2 : w.cell? ⟨tb, 2, none⟩ = some (.int .i32 0) := by rw [cell_of ht]; rfl
  have f2 := frozen_of ht 2
  have A1 : (w.setCell ⟨tb, 2, none⟩ (.int .i32 1)).heap[tb]? = some (.cells (tabA 0 1 none) 225 (0, 0)) := block_set ht 2 (.int .i32 1)
  have hk1 : Keeps (fun k => k = tb) w (w.setCell ⟨tb, 2, none⟩ (.int .i32 1)) := Keeps.setCell (F := fun k => k = tb) (Keeps.refl _ _) (p := ⟨tb, 2, none⟩) (fun _ => rfl) _
  have hl := run_call_load (P := Tryz.prog) Tryz.func145 (by kernel_rfl) (by kernel_rfl) (by kernel_rfl) .u32 (by kernel_rfl) (w := w.setCell ⟨tb, 2, none⟩ (.int .i32 1)) (a := ⟨tb, 1, none⟩) (x := 0) (by rw [cell_of A1]; rfl)
  have hnot : ∀ (x : Bool) (w : World), (Op.unary .not (.bool x)).run Tryz.prog w = .ok (.bool (!x)) w := fun _ _ => rfl
  have HF := hidE  (fill_any _ tb 0 1 0 A1)
  have HK := hidE  hk1
  have hb0 := ht
  clear hk1 ht A1
  go_enter_defers Tryz.func143, Tryz.ntmps143
  go_wp2_with (first | (go_at_call 146; refine (lock_free ⟨tb, 2, none⟩ _ c2 f2).mono ?_; rintro e w' ⟨rfl, rfl⟩) | (go_at_call 142; go_in) | (go_at_call 137; refine HF.out.mono ?_; rintro e w2 ⟨rfl, h2⟩))
  have B2 := h2.ht
  have htb := lt_of_block B2
  have B3 : (w2.drew.setCell ⟨tb, 1, none⟩ (.int .u32 1)).heap[tb]? = some (.cells (tabA 1 1 (some ((w.setCell ⟨tb, 2, none⟩ (.int .i32 1)).heap.size + 1))) 225 (0, 0)) := block_set (w := w2.drew) B2 1 (.int .u32 1)
  have B4 : ((w2.drew.setCell ⟨tb, 1, none⟩ (.int .u32 1)).setCell ⟨tb, 2, none⟩ (.int .i32 0)).heap[tb]? = some (.cells (tabA 1 0 (some ((w.setCell ⟨tb, 2, none⟩ (.int .i32 1)).heap.size + 1))) 225 (0, 0)) := block_set B3 2 (.int .i32 0)
  have hk3 : Keeps (fun k => k = tb) w2 ((w2.drew.setCell ⟨tb, 1, none⟩ (.int .u32 1)).setCell ⟨tb, 2, none⟩ (.int .i32 0)) :=
    Keeps.setCell (F := fun k => k = tb) (Keeps.setCell (F := fun k => k = tb) ((Keeps.refl _ w2).drew) (p := ⟨tb, 1, none⟩) (fun _ => rfl) _) (p := ⟨tb, 2, none⟩) (fun _ => rfl) _
  have hne : (w.setCell ⟨tb, 2, none⟩ (.int .i32 1)).heap.size + 1 ≠ tb := by
    have := lt_of_block hb0
    simp [World.setCell]
    omega
  refine leaves_cons (f := 148) (args := #[.pointer (some ⟨tb, 1, none⟩), .bool true]) (by simp) (by simp [go_sem]) ?_
  refine (store_deferred ⟨tb, 1, none⟩ (.int .u32 0) .returning _ (by rw [cell_of B2]; rfl) (frozen_of B2 1)).mono ?_
  rintro e u' w'' ⟨rfl, rfl, rfl⟩
  refine leaves_cons (f := 147) (args := #[.pointer (some ⟨tb, 2, none⟩)]) (by simp [settle]) (by simp [go_sem]) ?_
  refine (unlock_deferred ⟨tb, 2, none⟩ _ _ (by rw [cell_of B3]; rfl) (frozen_of B3 2)).mono ?_
  rintro e u' w'' ⟨rfl, rfl, rfl⟩
  simp only [Leaves, settle]
  refine ⟨_, results_none rfl _ _ _, rfl, (HK.out.trans h2.hk).trans hk3, _, B4, hne, (h2.hM.mono (by omega)).keeps hk3 hne⟩
set_option maxRecDepth 100000 in
theorem do_new (w : World) (tb : Nat) (ht : TabNew w tb) :
    Calls Tryz.prog 136 #[.pointer (some ⟨tb, 1, none⟩), .func (.func 137) #[.pointer (some ⟨tb, 0, none⟩)] #[]] w fun e w' => e = .returned (.tuple #[]) ∧ Keeps (fun k => k = tb) w w' ∧ TabHas w' tb := by
  have ht' : w.heap[tb]? = some (.cells (tabA 0 0 none) 225 (0, 0)) := ht
  have hl := run_call_load (P := Tryz.prog) Tryz.func145 (by kernel_rfl) (by kernel_rfl) (by kernel_rfl) .u32 (by kernel_rfl) (w := w) (a := ⟨tb, 1, none⟩) (x := 0) (by rw [cell_of ht']; rfl)
  have hnot : ∀ (x : Bool) (w : World), (Op.unary .not (.bool x)).run Tryz.prog w = .ok (.bool (!x)) w := fun _ _ => rfl
  have HS := hidE  (slow_new w tb ht)
  clear ht ht'
  go_enter Tryz.func136, Tryz.ntmps136
  go_wp2_with (first | (go_at_call 143; refine HS.out.mono ?_; rintro e w2 ⟨rfl, h2⟩) | (go_at_call 142; go_in))
  go_end0
  exact ⟨rfl, h2⟩
theorem do_done (w : World) (tb : Nat) (fv : Value) (ht : TabHas w tb) :
    Calls Tryz.prog 136 #[.pointer (some ⟨tb, 1, none⟩), fv] w fun e w' => e = .returned (.tuple #[]) ∧ w' = w := by
  obtain ⟨r, h1, -, -⟩ := ht
  have hl := run_call_load (P := Tryz.prog) Tryz.func145 (by kernel_rfl) (by kernel_rfl) (by kernel_rfl) .u32 (by kernel_rfl) (w := w) (a := ⟨tb, 1, none⟩) (x := 1) (by rw [cell_of h1]; rfl)
  have hnot : ∀ (x : Bool) (w : World), (Op.unary .not (.bool x)).run Tryz.prog w = .ok (.bool (!x)) w := fun _ _ => rfl
  clear h1
  go_enter Tryz.func136, Tryz.ntmps136
  go_wp2
  go_end0
  exact ⟨rfl, rfl⟩
def TabOk (w : World) (tb : Nat) : Prop := TabNew w tb ∨ TabHas w tb
theorem do_ok (w : World) (tb : Nat) (ht : TabOk w tb) :
    Calls Tryz.prog 136 #[.pointer (some ⟨tb, 1, none⟩), .func (.func 137) #[.pointer (some ⟨tb, 0, none⟩)] #[]] w fun e w' => e = .returned (.tuple #[]) ∧ Keeps (fun k => k = tb) w w' ∧ TabHas w' tb := by
  rcases ht with ht | ht
  · exact do_new w tb ht
  · refine (do_done w tb _ ht).mono ?_
    rintro e w' ⟨rfl, rfl⟩
    exact ⟨rfl, Keeps.refl _ _, ht⟩
theorem kind_new (w : World) : Calls Tryz.prog 98 #[] w fun e w' => e = .returned (.pointer (some ⟨w.heap.size, 0, none⟩)) ∧ TabNew w' w.heap.size ∧ Same w w' := by
  go_enter Tryz.func98, Tryz.ntmps98
  go_wp2
  go_ret
  exact ⟨rfl, block_new _ _, (Keeps.refl _ _).alloc _⟩
set_option maxHeartbeats 2000000 in
theorem of_ok (w : World) (tb : Nat) (op : Int) (h0 : 0 ≤ op) (h1 : op < 256) (ht : TabOk w tb) :
    Calls Tryz.prog 123 #[.pointer (some ⟨tb, 0, none⟩), .int .u8 op] w fun e w' => e = .returned (knV (kindM op)) ∧ Keeps (fun k => k = tb) w w' ∧ TabHas w' tb := by
  obtain ⟨d, i, m, hb⟩ : ∃ d i m, w.heap[tb]? = some (.cells (tabA d i m) 225 (0, 0)) := by
    rcases ht with h | ⟨r, h, -⟩
    · exact ⟨_, _, _, h⟩
    · exact ⟨_, _, _, h⟩
  have cb := cell_of hb
  have hlt := lt_of_block hb
  have ht1 : TabOk (w.alloc (.cells #[.int .i64 0, .string ⟨#[]⟩] 227)) tb := by
    rcases ht with h | h
    · exact .inl (block_old _ h)
    · exact .inr (h.keeps ((Keeps.refl (fun _ => False) _).alloc _) (fun _ => id))
  have HD := hidE  (do_ok _ tb ht1)
  clear ht ht1 hb
  simp only [tabA] at cb
  generalize hx : kindM op = x
  have HX := hidE  hx
  clear hx
  obtain ⟨x1, x2⟩ := x
  simp only [knV]
  go_enter Tryz.func123, Tryz.ntmps123
  go_wp2_with fail
  refine HD.out.mono ?_
  rintro e w1 ⟨rfl, hk, ht⟩
  have hk1 := hk.size
  have hTH := hidE  ht
  obtain ⟨r, hb, hr, hM⟩ := ht
  have c1 := cell_of hb
  have hlook := hM.look op h0 h1
  have A1 := hk.get (block_new w (.cells #[.int .i64 0, .string ⟨#[]⟩] 227)) (by omega)
  have f1 := frozen_of A1
  have ca := cell_of A1
  have HK := hidE  hk
  have hrw : r ≠ w.heap.size := by
    rintro rfl
    obtain ⟨D, ⟨es, cl, h, -⟩, -⟩ := hM
    rw [A1] at h
    cases h
  have hkeep : ∀ v1 v2, TabHas ((w1.setCell ⟨w.heap.size, 0, none⟩ v1).setCell ⟨w.heap.size, 1, none⟩ v2) tb := fun v1 v2 =>
    ⟨r, block_other _ (block_other _ hb (by simp; omega)) (by simp; omega), hr, hM.keeps (Keeps.setCell (F := fun k => k = w.heap.size) (Keeps.setCell (F := fun k => k = w.heap.size) (Keeps.refl _ _) (p := ⟨w.heap.size, 0, none⟩) (fun _ => rfl) _) (p := ⟨w.heap.size, 1, none⟩) (fun _ => rfl) _) hrw⟩
  have HKP := hidE  hkeep
  have hblk : ∀ v1 v2, ((w1.setCell ⟨w.heap.size, 0, none⟩ v1).setCell ⟨w.heap.size, 1, none⟩ v2).heap[w.heap.size]? = some (.cells #[v1, v2] 227 (0, 0)) := fun v1 v2 => block_set (block_set A1 0 v1) 1 v2
  have HB := hidE  hblk
  clear hkeep hblk hTH
  rw [HX.out] at hlook
  simp only [tabA, knV] at *
  clear cb hk hM
  go_wp2
  exact bodyPost_ret (results_c rfl rfl (HB.out _ _) Tryz.underlying227 rfl (by kernel_rfl)) rfl ⟨rfl,
    Keeps.setCell (F := fun k => k = tb) (Keeps.setCell (F := fun k => k = tb) (((Keeps.refl _ _).alloc _).trans HK.out) (p := ⟨w.heap.size, 0, none⟩) (fun h => absurd h (Nat.lt_irrefl _)) _) (p := ⟨w.heap.size, 1, none⟩) (fun h => absurd h (Nat.lt_irrefl _)) _, HKP.out _ _⟩
set_option maxRecDepth 100000 in
theorem ends_ok (w : World) (tb : Nat) (op : Int) (h0 : 0 ≤ op) (h1 : op < 256) (ht : TabOk w tb) :
    Calls Tryz.prog 99 #[.pointer (some ⟨tb, 0, none⟩), .int .u8 op] w fun e w' => e = .returned (.bool (decide (3 ≤ (kindM op).1))) ∧ Keeps (fun k => k = tb) w w' ∧ TabHas w' tb := by
  have HO := hidE  (of_ok w tb op h0 h1 ht)
  have hfd : ∀ (a : Int) (s : ByteArray) (w : World), (Instr.field 227 (.agg #[.int .i64 a, .string s]) 0).run Tryz.prog w = .ok (.int .i64 a) w := fun _ _ _ => by kernel_rfl
  clear ht
  generalize kindM op = x at *
  obtain ⟨x1, x2⟩ := x
  simp only [knV] at *
  go_enter Tryz.func99, Tryz.ntmps99
  go_wp2_with fail
  refine HO.out.mono ?_
  rintro e w1 ⟨rfl, hk⟩
  go_wp2
  go_ret
  exact ⟨rfl, hk⟩
end Go.Proofs.YtomphgpplbekiaaGreat
