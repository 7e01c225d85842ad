/- The reference of layer 5: New. The reference of layer 5: Fill. -/
import Derived.Test.YtjkjnomhggmplaaGreatRamN
import Derived.Test.YtjkjnomhggmplaaGreatRes
namespace Go.Proofs.YtjkjnomhggmplaaGreat
open Go.RowKit

set_option maxRecDepth 100000 in
set_option maxHeartbeats 1000000 in
theorem r5_New (w : World) (n : Nat) (h2 : n ≤ 512) :
    Calls Tryz.prog 16 #[.int .i64 n] w fun e w' => e = .returned (.agg #[.slice (some ⟨w.heap.size + 1, 0, none⟩) (64 * n) (64 * n)]) ∧ w'.heap[w.heap.size + 1]? = some (.cells (zeros (64 * n)) 5 (0, 0)) ∧ Same w w' := by
  have e1 := wrapI ((n : Int) * 64) (by omega) (by omega)
  have hmk : Hid (∀ u : World, _) := hidE (run_zeros (64 * n) (by omega))
  rw [show ((64 * n : Nat) : Int) = (n : Int) * 64 from by omega] at hmk
  have hmk := hmk.out
  obtain ⟨Z, hZ⟩ : ∃ Z, Z = zeros (64 * n) := ⟨_, rfl⟩
  rw [← hZ] at hmk ⊢
  clear hZ
  go_enter Tryz.func16, Tryz.ntmps16
  go_wp2_with fail
  exact bodyPost_ret (results_c rfl rfl (block_old _ (block_new _ _)) Tryz.underlying34 rfl (by kernel_rfl)) rfl ⟨rfl, block_atR _ (by simp), ((Keeps.refl _ _).alloc _).alloc _⟩
end Go.Proofs.YtjkjnomhggmplaaGreat
namespace Go.Proofs.YtjkjnomhggmplaaGreat
open Go.RowKit

/-- The document's memory: frames one behind the other. -/
def R0 : RamAt := ⟨0, 0, 0, 0, 0, id⟩
theorem R0_pos (i : Nat) : R0.pos i = i := by unfold RamAt.pos R0; simp only [id]; omega
theorem R0_take (M l : List Int) (a k : Nat) (h : k < l.length) : R0.put M a (l.take (k + 1)) = (R0.put M a (l.take k)).set (a + k) l[k] := by
  rw [List.take_succ_eq_append_getElem h, RamAt.put_append]
  simp only [RamAt.put, R0_pos]
  rw [List.length_take, Nat.min_eq_left (by omega)]
def bytesV (M : List Int) : Array Value := (M.map (Value.int .u8)).toArray
def FillSt (w : World) (g : Nat) (M : List Int) (a : Nat) (l : List Int) (k : Nat) (wr : World) : Prop :=
  wr.heap[g]? = some (.cells (bytesV (R0.put M a (l.take k))) 5 (0, 0)) ∧ Keeps (fun j => j = g) w wr
set_option maxRecDepth 100000 in
set_option maxHeartbeats 1000000 in
theorem r5_Fill (w : World) (g L : Nat) (M : List Int) (hM : M.length = L) (hL : L ≤ 32768) (hg : w.heap[g]? = some (.cells (bytesV M) 5 (0, 0))) (a : Nat) (ha : a < 4294967296) (v : Value) (l : List Int) (hv : BySr w g v l) :
    Calls Tryz.prog 17 #[.agg #[.slice (some ⟨g, 0, none⟩) L L], .int .u32 a, v] w fun e w' =>
      if a + l.length ≤ L then e = .returned (.bool true) ∧ w'.heap[g]? = some (.cells (bytesV (R0.put M a l)) 5 (0, 0)) ∧ Keeps (fun j => j = g) w w' else e = .returned (.bool false) ∧ Same w w' := by
  obtain ⟨hby, p, cap, rfl, hc1, hc2, hp⟩ := hv
  have hmax : maxLen ≤ 9223372036854775807 := by decide
  have e1 := wrapI (a : Int) (by omega) (by omega)
  have e2 := wrapI ((L : Int) - a) (by omega) (by omega)
  by_cases hc : a + l.length ≤ L
  · simp only [if_pos hc]
    have q1 : decide ((L : Int) < a) = false := by simp; omega
    have q2 : decide ((L : Int) - a < (l.length : Int)) = false := by simp; omega
    go_enter Tryz.func17, Tryz.ntmps17
    go_wp2_with fail
    have hgw := lt_of_block hg
    have HP := hidE hp
    have HG := hidE hg
    clear hp hg
    go_loopw [7] (fun t7 wr => ∃ k : Nat, k ≤ l.length ∧ t7 = .int .i64 k ∧ FillSt (w.alloc (.cells #[.slice (some ⟨g, 0, none⟩) L L] 34)) g M a l k wr) (fun t7 _ => l.length - (intOf t7).toNat)
    case atStart => exact ⟨0, by omega, rfl, block_old _ HG.out, Keeps.refl _ _⟩
    case round =>
      obtain ⟨k, hk, rfl, hF⟩ := hrel
      have HF := hidE hF
      obtain ⟨f1, f2⟩ := hF
      have hb := f2.get (block_new w _) (show ¬ w.heap.size = g by omega)
      have c0 : wr.cell? ⟨w.heap.size, 0, none⟩ = some (.slice (some ⟨g, 0, none⟩) L L) := by rw [cell_of hb]; rfl
      by_cases hlt : k < l.length
      · obtain ⟨sg, so, rfl, n1, n2, n3⟩ := HP.out (by omega)
        have hs : wr.cell? ⟨sg, so + k, none⟩ = some (.int .u8 l[k]) := by
          rw [← n3 k hlt]
          unfold World.cell?
          rw [f2.block sg (by simp; omega) n1, Below.heap_alloc _ _ _ n2]
        have hlen : (R0.put M a (l.take k)).length = L := by rw [RamAt.put_length, hM]
        have hd : wr.cell? ⟨g, a + k, none⟩ = some (.int .u8 ((R0.put M a (l.take k)).getD (a + k) 0)) := by
          rw [cell_of f1]; simp [bytesV, show a + k < (R0.put M a (l.take k)).length by omega]
        have hz := frozen_of f1 (a + k)
        have e3 := wrapI ((a : Int) + k) (by omega) (by omega)
        have q3 : decide ((k : Int) < (l.length : Int)) = true := by simp; omega
        have q4 : a + k < L := by omega
        have e4 : ((a : Int) + k).toNat = a + k := by omega
        go_wp2
        refine wp_region_ev 11 11 0 rfl (fun u => u.cell? ⟨w.heap.size, 0, none⟩ = some (.slice (some ⟨g, 0, none⟩) L L) ∧ u.cell? ⟨sg, so + k, none⟩ = some (.int .u8 l[k])) (by kernel_rfl) (by kernel_rfl) (fun c a d v w h => by cases d <;> exact h) ⟨c0, hs⟩ ?_
        simp only [List.take_succ_cons, List.take_zero, List.drop_succ_cons, List.drop_zero]
        repeat (refine stS_cons (v := ?_) rfl (fun u hu => ?_) ?_; rotate_left; · (obtain ⟨u1, u2⟩ := hu; go_simp; first | done | with_reducible rfl); (try simp only [Act.put, List.setIfInBounds_toArray, List.set_cons_zero, List.set_cons_succ]))
        refine stS_cons (v := .pointer (some ⟨g, a + k, none⟩)) rfl (fun u hu => ?_) ?_
        · obtain ⟨u1, u2⟩ := hu
          go_simp
          intro h
          exact absurd (h (by omega)) (by omega)
        refine stS_nil ?_
        refine wpListS_zero ?_
        simp only [Act.put, List.setIfInBounds_toArray, List.set_cons_zero, List.set_cons_succ]
        go_wp2
        have hR := R0_take M l a k hlt
        go_roundw
        case rel =>
          refine ⟨k + 1, by omega, by go_num, ?_, (HF.out.2.setCell (p := ⟨g, a + k, none⟩) (fun _ => rfl) _).drew⟩
          rw [hR]
          refine (block_set f1 (a + k) (.int .u8 l[k])).trans ?_
          simp [bytesV]
        case measure => simp only [intOf]; omega
      · obtain rfl : k = l.length := by omega
        go_wp2
        go_ret
        exact ⟨rfl, by simpa using HF.out.1, ((Keeps.refl _ _).alloc _).trans HF.out.2⟩
  · simp only [if_neg hc]
    have hq : (L : Int) < a ∨ (L : Int) - a < (l.length : Int) := by omega
    go_enter Tryz.func17, Tryz.ntmps17
    go_wp2
    all_goals (go_ret; exact ⟨rfl, (Keeps.refl _ _).alloc _⟩)
end Go.Proofs.YtjkjnomhggmplaaGreat
