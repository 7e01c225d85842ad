/- slices.Sort and slices.Compact of nothing. A cache that is not there, and one that no call made: its functions that range over blocks. -/
import Derived.Test.YtomphgpplbekiaaGreatHeap
import Derived.Test.YtomphgpplbekiaaGreatRows
import Derived.WalkKit
import Derived.LoopTactic
import Derived.Test.YtomphgpplbekiaaGreatRa
import Derived.Test.YtomphgpplbekiaaGreatCnA
import Derived.RangeFuncNested
import Derived.RangeFuncBound
import Derived.RangeFuncCalls
import Derived.RangeFuncLeaves
import Derived.RangeFuncBox
import Derived.Shelf.Abstract
import Derived.Shelf.RegionOpen
import Derived.OwnWalkIn
import Derived.TacticsInMore
import Derived.LoopNIn
import Derived.LoopIn
import Derived.Maps.AppendAt
namespace Go.Proofs.YtomphgpplbekiaaGreat
open Go.RowKit
set_option maxRecDepth 100000 in
theorem len64_0 (w : World) : Calls Tryz.prog 122 #[.int .u64 0] w fun e w' => e = .returned (.int .i64 0) ∧ w = w' := by
  go_enter Tryz.func122, Tryz.ntmps122
  go_wp2_with fail
  go_ret
  exact ⟨by kernel_rfl, rfl⟩
set_option maxRecDepth 100000 in
theorem len_0 (w : World) : Calls Tryz.prog 96 #[.int .u64 0] w fun e w' => e = .returned (.int .i64 0) ∧ w = w' := by
  go_enter Tryz.func96, Tryz.ntmps96
  go_wp2_with fail
  refine (len64_0 _).mono ?_
  rintro _ w1 ⟨rfl, rfl⟩
  go_wp2
  go_ret
  exact ⟨rfl, rfl⟩
theorem ins_0 (w : World) (p : Option Addr) (c : Nat) : Calls Tryz.prog 112 #[.slice p 0 c, .int .i64 0, .int .i64 0] w fun e w' => e = .returned (.tuple #[]) ∧ w = w' := by
  go_enter Tryz.func112, Tryz.ntmps112
  go_wp2_with fail
  go_loopw [6] (fun t6 wr => t6 = .int .i64 1 ∧ wr = w) (fun _ _ => 0)
  case atStart => exact ⟨rfl, rfl⟩
  case round =>
    obtain ⟨rfl, rfl⟩ := hrel
    go_wp2
    go_end0
    exact ⟨rfl, rfl⟩
set_option maxRecDepth 100000 in
theorem pdq_0 (w : World) (p : Option Addr) (c : Nat) : Calls Tryz.prog 95 #[.slice p 0 c, .int .i64 0, .int .i64 0, .int .i64 0] w fun e w' => e = .returned (.tuple #[]) ∧ w = w' := by
  go_enter Tryz.func95, Tryz.ntmps95
  go_wp2_with fail
  go_loopw [1, 2, 3] (fun t1 t2 t3 wr => t1 = .int .i64 0 ∧ t2 = .int .i64 0 ∧ t3 = .int .i64 0 ∧ wr = w) (fun _ _ _ _ => 0)
  case atStart => exact ⟨rfl, rfl, rfl, rfl⟩
  case round =>
    obtain ⟨rfl, rfl, rfl, rfl⟩ := hrel
    go_wp2_with fail
    refine (ins_0 _ _ _).mono ?_
    rintro _ w1 ⟨rfl, rfl⟩
    go_wp2
    (try simp only [Exit.inBlock, Exit.then])
    exact bodyPost_ret (results_none rfl _ _ _) rfl ⟨rfl, rfl⟩
theorem sort_0 (w : World) (p : Option Addr) (c : Nat) : Calls Tryz.prog 69 #[.slice p 0 c] w fun e w' => e = .returned (.tuple #[]) ∧ w = w' := by
  go_enter Tryz.func69, Tryz.ntmps69
  go_wp2_with fail
  refine (len_0 _).mono ?_
  rintro _ w1 ⟨rfl, rfl⟩
  go_wp2_with fail
  refine (pdq_0 _ _ _).mono ?_
  rintro _ w1 ⟨rfl, rfl⟩
  go_wp2
  go_end0
  exact ⟨rfl, rfl⟩
theorem compact_0 (w : World) (p : Option Addr) (c : Nat) : Calls Tryz.prog 70 #[.slice p 0 c] w fun e w' => e = .returned (.slice p 0 c) ∧ w = w' := by
  go_enter Tryz.func70, Tryz.ntmps70
  go_wp2_with fail
  go_ret
  exact ⟨rfl, rfl⟩
end Go.Proofs.YtomphgpplbekiaaGreat
namespace Go.Proofs.YtomphgpplbekiaaGreat
open Go.RowKit Go.Shelf
attribute [local go_sem ↓] Go.wp_at_zero Go.wp_at_succ
attribute [local go_sem] Oper.semAt_some

theorem own_of {α : Type} {L : Nat} {I : List α → World → Prop} (h : ∀ s A B r, I s A → L ≤ r → (∃ o : Obj, A.heap[r]? = some o ∧ o.isCells = false) → Keeps (fun k => k = r) A B → I s B) (h2 : ∀ s A B, I s A → Same A B → I s B) : OwnFrom L I := fun s A B row hs hg hr => by
  cases row with
  | none => exact h2 s A B hs (keeps_grown hg fun k e => by cases e)
  | some r =>
    obtain ⟨h3, h4⟩ := hr r rfl
    exact h s A B r hs h3 h4 (keeps_grown hg fun k e => by cases e; rfl)
theorem not_cells {A : World} {r : Nat} {cs : Array Value} {t : TypeId} {f : Nat × Nat} {b : Nat} (hb : A.heap[b]? = some (.cells cs t f)) (h : ∃ o : Obj, A.heap[r]? = some o ∧ o.isCells = false) : b ≠ r := fun e => by
  subst e
  obtain ⟨o, h1, h2⟩ := h
  rw [hb] at h1
  cases h1
  cases h2
theorem same_new {F : Nat → Prop} {w A B : World} (h : Same w A) (k : Keeps F A B) (hF : ∀ k, F k → w.heap.size ≤ k) : Same w B := same_then h k hF
theorem same_put {w W : World} (h : Same w W) {D : Nat} {o o' : Obj} (hD : w.heap.size ≤ D) (hK : W.heap[D]? = some o) : Same w (W.putObj D o') :=
  same_then h (keeps_grown (F := fun k => k = D) (grownBy_putObj' W D o') fun k e => by cases e; rfl) (fun k e => by subst e; exact hD)
theorem each_any (w : World) (p : Option Addr) : Calls Tryz.prog 46 #[.pointer p] w fun e w' => e = .returned (.func (.func 79) #[] #[.pointer (some ⟨w.heap.size, 0, none⟩)]) ∧ w' = w.alloc (.cells #[.pointer p] 23) := by
  go_enter Tryz.func46, Tryz.ntmps46
  go_wp2
  go_ret
  exact ⟨rfl, rfl⟩
def encE : Empty → Array Value := fun x => nomatch x
set_option maxRecDepth 100000 in
theorem each1_none (n : Nat) (hn : 1 ≤ n) (Bn : Nat) (p : Option Addr) (w : World) (hBn : Bn < w.heap.size) (hc : w.cell? ⟨Bn, 0, none⟩ = some (.pointer p)) (hN : NoC w (.pointer p)) (Kp : World → World → Prop) :
    SeqStopsK Fence.wide n Tryz.prog 79 #[.pointer (some ⟨Bn, 0, none⟩)] encE Kp (fun xs => xs = []) (fun _ => False) 0 w := fun l J Jx W hW _ _ _ h0 => by
  have hc' := (hW.cell (p := ⟨Bn, 0, none⟩) hBn).trans hc
  have hN' : NoC W (.pointer p) := by
    rcases hN with h | ⟨g, e, h⟩
    · exact .inl h
    · exact .inr ⟨g, e, (hW.cell (p := ⟨g, 0, none⟩) (lt_of_cell h)).trans h⟩
  have HN := hidE (cn_none W _ hN')
  clear hN hN' hc
  refine callsIn_of_wp Tryz.func79 rfl trivial ?_ rfl
  simp only [Tryz.ntmps79, List.size_toArray, List.length_cons, List.length_nil, Nat.reduceAdd, Nat.reduceSub, Array.replicate_succ, Array.replicate_zero, List.push_toArray, List.append_toArray, List.nil_append, List.cons_append]
  have hfn : Fence.wide.fn 47 := trivial
  gi_wp2_with (gi_at_call 47; refine (callsIn_wide.2 HN.out).mono ?_; rintro _ w1 ⟨rfl, rfl⟩)
  refine bodyPost_ret (results_none rfl _ _ _) rfl ?_
  exact ⟨⟨_, rfl⟩, .inl ⟨_, rfl, h0⟩⟩
set_option maxRecDepth 100000 in
theorem cn_keys (w : World) (v : Value) (h : NoC w v) : Calls Tryz.prog 11 #[v] w fun e w' => e = .returned (.slice none 0 0) ∧ Same w w' := by
  obtain ⟨p, rfl⟩ : ∃ p, v = .pointer p := by rcases h with rfl | ⟨g, rfl, -⟩ <;> exact ⟨_, rfl⟩
  refine (callsIn_wide (n := 6)).1 ?_
  refine callsIn_of_wp_marks Tryz.func11 rfl trivial ?_ rfl
  simp only [Tryz.ntmps11, List.size_toArray, List.length_cons, List.length_nil, Nat.reduceAdd, Nat.reduceSub, Array.replicate_succ, Array.replicate_zero, List.push_toArray, List.append_toArray, List.nil_append, List.cons_append]
  have hfn : Fence.wide.fn 46 := trivial
  gi_wp2_with (gi_at_call 46; refine (callsIn_wide.2 (each_any _ _)).mono ?_; rintro e w' ⟨rfl, rfl⟩)
  have hb := block_old (.cells #[.pointer p] 23) (block_new w (.cells #[.slice none 0 0] 39))
  have hk := ((Keeps.refl (fun _ => False) w).alloc (.cells #[.slice none 0 0] 39)).alloc (.cells #[.pointer p] 23)
  have hc := (cell_of (block_atR (.cells #[.pointer p] 23) (by simp : (w.alloc (.cells #[.slice none 0 0] 39)).heap.size = w.heap.size + 1))) 0
  refine wpIn_rangeFunc_ownH rfl (by omega) (gf := 79) (lb := #[.pointer (some ⟨w.heap.size + 1, 0, none⟩)]) rfl trivial (enters_of Tryz.func79 (by kernel_rfl) rfl)
    (each1_none 5 (by omega) (w.heap.size + 1) p _ (by simp) hc (h.same hk) (fun _ _ => True)) (fun _ _ => trivial) (fun _ _ _ _ _ _ _ _ => trivial) (Below.refl _ _) (fun x => nomatch x)
    (fun pre W => W.heap[w.heap.size]? = some (.cells #[.slice none 0 0] 39 (0, 0)) ∧ Same w W)
    (fun _ _ _ => False)
    (own_of (fun s A B r h1 h2 h3 h4 => ⟨h4.get h1.1 (not_cells h1.1 h3), same_new h1.2 h4 (fun k e => by subst e; simp at h2; omega)⟩) (fun s A B h1 h2 => ⟨h2.get h1.1 id, h1.2.trans h2⟩))
    (fun _ _ _ _ _ hs _ _ => hs.elim)
    ⟨hb, hk⟩
    (fun _ _ _ => True) (fun _ _ _ _ _ _ _ _ _ => trivial) ?assign ?body ?done ?stop
  case assign =>
    exact fun l pre x => nomatch x
  case body => exact fun l pre x => nomatch x
  case done =>
    rintro D xs W hD rfl ⟨h1, h2⟩ hK
    have c1 := cell_of h1
    gi_wp2
    refine ⟨by simp, .inl ⟨_, _, rfl, run_takeDeferred hK, ?_⟩⟩
    refine ⟨_, results_tmp rfl _ _ _, rfl, ?_⟩
    exact same_put h2 (by simp at hD; omega) hK
  case stop => exact fun D c pre W _ h => h.elim
set_option maxRecDepth 100000 in
theorem cn_drop (w0 : World) (v : Value) (x : Int) (h : NoC w0 v) : Calls Tryz.prog 36 #[v, .int .i64 x] w0 fun e w' => e = .returned (.slice none 0 0) ∧ Same w0 w' := by
  obtain ⟨p, rfl⟩ : ∃ p, v = .pointer p := by rcases h with rfl | ⟨g, rfl, -⟩ <;> exact ⟨_, rfl⟩
  have HK0 := hidE (((Keeps.refl (fun _ => False) w0).alloc (.cells #[.pointer p] 23)).alloc (.cells #[.int .i64 x] 3))
  have h := h.same HK0.out
  have c0 := cell_of (block_old (.cells #[.int .i64 x] 3) (block_new w0 (.cells #[.pointer p] 23)))
  refine (callsIn_wide (n := 6)).1 ?_
  refine callsIn_of_wp_marks Tryz.func36 rfl trivial ?_ rfl
  simp only [Tryz.ntmps36, List.size_toArray, List.length_cons, List.length_nil, Nat.reduceAdd, Nat.reduceSub, Array.replicate_succ, Array.replicate_zero, List.push_toArray, List.append_toArray, List.nil_append, List.cons_append]
  have hfn : Fence.wide.fn 46 := trivial
  gi_wp2_with (gi_at_call 46; refine (callsIn_wide.2 (each_any _ _)).mono ?_; rintro e w' ⟨rfl, rfl⟩)
  clear c0
  have hsz : ((w0.alloc (.cells #[.pointer p] 23)).alloc (.cells #[.int .i64 x] 3)).heap.size = w0.heap.size + 1 + 1 := by simp
  generalize (w0.alloc (.cells #[.pointer p] 23)).alloc (.cells #[.int .i64 x] 3) = w at *
  rw [← hsz]
  clear hsz
  have hb := block_old (.cells #[.pointer p] 23) (block_new w (.cells #[.slice none 0 0] 39))
  have hk := ((Keeps.refl (fun _ => False) w).alloc (.cells #[.slice none 0 0] 39)).alloc (.cells #[.pointer p] 23)
  have hc := (cell_of (block_atR (.cells #[.pointer p] 23) (by simp : (w.alloc (.cells #[.slice none 0 0] 39)).heap.size = w.heap.size + 1))) 0
  refine wpIn_rangeFunc_ownH rfl (by omega) (gf := 79) (lb := #[.pointer (some ⟨w.heap.size + 1, 0, none⟩)]) rfl trivial (enters_of Tryz.func79 (by kernel_rfl) rfl)
    (each1_none 5 (by omega) (w.heap.size + 1) p _ (by simp) hc (h.same hk) (fun _ _ => True)) (fun _ _ => trivial) (fun _ _ _ _ _ _ _ _ => trivial) (Below.refl _ _) (fun x => nomatch x)
    (fun pre W => W.heap[w.heap.size]? = some (.cells #[.slice none 0 0] 39 (0, 0)) ∧ Same w W)
    (fun _ _ _ => False)
    (own_of (fun s A B r h1 h2 h3 h4 => ⟨h4.get h1.1 (not_cells h1.1 h3), same_new h1.2 h4 (fun k e => by subst e; simp at h2; omega)⟩) (fun s A B h1 h2 => ⟨h2.get h1.1 id, h1.2.trans h2⟩))
    (fun _ _ _ _ _ hs _ _ => hs.elim)
    ⟨hb, hk⟩
    (fun _ _ _ => True) (fun _ _ _ _ _ _ _ _ _ => trivial) ?assign ?body ?done ?stop
  case assign =>
    exact fun l pre x => nomatch x
  case body => exact fun l pre x => nomatch x
  case done =>
    rintro D xs W hD rfl ⟨h1, h2⟩ hK
    have c1 := cell_of h1
    gi_wp2
    refine ⟨by simp, .inl ⟨_, _, rfl, run_takeDeferred hK, ?_⟩⟩
    refine ⟨_, results_tmp rfl _ _ _, rfl, ?_⟩
    exact HK0.out.trans (same_put h2 (by simp at hD; omega) hK)
  case stop => exact fun D c pre W _ h => h.elim
set_option maxRecDepth 100000 in
theorem cn_frames (w : World) (v : Value) (h : NoC w v) : Calls Tryz.prog 34 #[v] w fun e w' => e = .returned (.slice none 0 0) ∧ Same w w' := by
  obtain ⟨p, rfl⟩ : ∃ p, v = .pointer p := by rcases h with rfl | ⟨g, rfl, -⟩ <;> exact ⟨_, rfl⟩
  refine (callsIn_wide (n := 6)).1 ?_
  refine callsIn_of_wp_marks Tryz.func34 rfl trivial ?_ rfl
  simp only [Tryz.ntmps34, List.size_toArray, List.length_cons, List.length_nil, Nat.reduceAdd, Nat.reduceSub, Array.replicate_succ, Array.replicate_zero, List.push_toArray, List.append_toArray, List.nil_append, List.cons_append]
  have hfn : Fence.wide.fn 46 := trivial
  gi_wp2_with (gi_at_call 46; refine (callsIn_wide.2 (each_any _ _)).mono ?_; rintro e w' ⟨rfl, rfl⟩)
  have hb := block_old (.cells #[.pointer p] 23) (block_new w (.cells #[.slice none 0 0] 34))
  have hk := ((Keeps.refl (fun _ => False) w).alloc (.cells #[.slice none 0 0] 34)).alloc (.cells #[.pointer p] 23)
  have hc := (cell_of (block_atR (.cells #[.pointer p] 23) (by simp : (w.alloc (.cells #[.slice none 0 0] 34)).heap.size = w.heap.size + 1))) 0
  refine wpIn_rangeFunc_ownH rfl (by omega) (gf := 79) (lb := #[.pointer (some ⟨w.heap.size + 1, 0, none⟩)]) rfl trivial (enters_of Tryz.func79 (by kernel_rfl) rfl)
    (each1_none 5 (by omega) (w.heap.size + 1) p _ (by simp) hc (h.same hk) (fun _ _ => True)) (fun _ _ => trivial) (fun _ _ _ _ _ _ _ _ => trivial) (Below.refl _ _) (fun x => nomatch x)
    (fun pre W => W.heap[w.heap.size]? = some (.cells #[.slice none 0 0] 34 (0, 0)) ∧ Same w W)
    (fun _ _ _ => False)
    (own_of (fun s A B r h1 h2 h3 h4 => ⟨h4.get h1.1 (not_cells h1.1 h3), same_new h1.2 h4 (fun k e => by subst e; simp at h2; omega)⟩) (fun s A B h1 h2 => ⟨h2.get h1.1 id, h1.2.trans h2⟩))
    (fun _ _ _ _ _ hs _ _ => hs.elim)
    ⟨hb, hk⟩
    (fun _ _ _ => True) (fun _ _ _ _ _ _ _ _ _ => trivial) ?assign ?body ?done ?stop
  case assign =>
    exact fun l pre x => nomatch x
  case body => exact fun l pre x => nomatch x
  case done =>
    rintro D xs W hD rfl ⟨h1, h2⟩ hK
    have c1 := cell_of h1
    have hf1 : Fence.wide.fn 69 := trivial
    have hf2 : Fence.wide.fn 70 := trivial
    gi_wp2_with (first | (gi_at_call 69; refine (callsIn_wide.2 (sort_0 _ _ _)).mono ?_; rintro _ w1 ⟨rfl, rfl⟩) | (gi_at_call 70; refine (callsIn_wide.2 (compact_0 _ _ _)).mono ?_; rintro _ w1 ⟨rfl, rfl⟩))
    refine ⟨by simp, .inl ⟨_, _, rfl, run_takeDeferred hK, ?_⟩⟩
    refine ⟨_, results_tmp rfl _ _ _, rfl, ?_⟩
    exact same_put h2 (by simp at hD; omega) hK
  case stop => exact fun D c pre W _ h => h.elim
end Go.Proofs.YtomphgpplbekiaaGreat
