/- The walk of the statement TlbNone: it answers true, and turns nothing that was there. -/
import Derived.Test.YtebponllpjpbeaaTlbB
import Derived.StillTailTactics
namespace Go.Proofs.Ytebponllpjpbeaa
open Go.RowKit

def NoneRel (w : World) (a : Option Addr) (l : Nat) (X : Nat → Int × Int × Int × Int) (wr : World) : Prop :=
  Below w.heap.size w wr ∧ IsSteps wr a l X ∧ wr.heap[w.heap.size]? = some (.cells #[.slice none 0 0, .int .i64 0, .int .i64 0] 52) ∧
    wr.heap[w.heap.size + 1]? = some (.cells #[.pointer none, .pointer (some ⟨w.heap.size, 0, none⟩)] 25)
theorem NoneRel.same {w wr wr' : World} {a : Option Addr} {l : Nat} {X : Nat → Int × Int × Int × Int} (h : NoneRel w a l X wr) (k : Same wr wr') : NoneRel w a l X wr' :=
  ⟨h.1.trans (Keeps.below k h.1.size (fun _ _ => id)), h.2.1.below (same_below k), k.get h.2.2.1 id, k.get h.2.2.2 id⟩
theorem NoneRel.at {w wr : World} {a : Option Addr} {l : Nat} {X : Nat → Int × Int × Int × Int} (h : NoneRel w a l X wr) {k : Nat} (hk : k < 2) : ∃ v, NoTLB wr v ∧ wr.cell? ⟨w.heap.size + 1, k, none⟩ = some v := by
  rcases (show k = 0 ∨ k = 1 by omega) with rfl | rfl
  · exact ⟨_, .inl rfl, by rw [cell_of h.2.2.2]; rfl⟩
  · exact ⟨_, .inr ⟨_, rfl, h.2.2.1⟩, by rw [cell_of h.2.2.2]; rfl⟩

set_option maxHeartbeats 2000000 in
theorem tlbNone_walk (w : World) (a0 : Option Addr) (l0 c0 : Nat) (h0 : RdV Try.prog w 38 [.slice a0 l0 c0]) :
    Calls Try.prog 7 #[.slice a0 l0 c0] w fun e w' => e = .returned (.bool true) ∧ Below w.heap.size w w' := by
  obtain ⟨⟨X, hX⟩, _⟩ := steps_open h0
  clear h0
  have hstart : NoneRel w a0 l0 X ((w.alloc (.cells #[.slice none 0 0, .int .i64 0, .int .i64 0] 52)).alloc (.cells #[.pointer none, .pointer (some ⟨w.heap.size, 0, none⟩)] 25)) := by
    have hb : Below w.heap.size w ((w.alloc (.cells #[.slice none 0 0, .int .i64 0, .int .i64 0] 52)).alloc (.cells #[.pointer none, .pointer (some ⟨w.heap.size, 0, none⟩)] 25)) := ((Below.refl _ w).alloc (Nat.le_refl _) _).alloc (by simp) _
    refine ⟨hb, hX.below hb, block_old _ (block_new w _), ?_⟩
    have := block_new (w.alloc (.cells #[.slice none 0 0, .int .i64 0, .int .i64 0] 52)) (.cells #[.pointer none, .pointer (some ⟨w.heap.size, 0, none⟩)] 25)
    rwa [World.size_alloc] at this
  have HSt := hidE  hstart
  clear hstart hX
  go_enter Try.func7, Try.ntmps7
  go_wp2_with fail
  go_loopw [5] (fun t5 wr => ∃ k : Nat, t5 = .int .i64 k ∧ k ≤ 2 ∧ NoneRel w a0 l0 X wr) (fun t5 _ => (2 - intOf t5).toNat)
  case atStart => exact ⟨0, rfl, by omega, HSt.out⟩
  case round =>
    obtain ⟨k, rfl, hk2, hR⟩ := hrel
    clear HSt
    obtain ⟨wo, rfl⟩ : ∃ wo : World, wo = wr := ⟨_, rfl⟩
    by_cases hlt : k < 2
    · have hkd : decide ((k : Int) < 2) = true := by simp; omega
      go_wp2_with fail
      go_loopw [6] (fun t6 wr => ∃ j : Nat, t6 = .int .i64 j ∧ j ≤ l0 ∧ j ≤ 20 ∧ NoneRel w a0 l0 X wr) (fun t6 _ => (20 - intOf t6).toNat)
      case atStart => exact ⟨0, rfl, by omega, by omega, hR⟩
      case round =>
        obtain ⟨j, rfl, hj, hj2, hR⟩ := hrel
        obtain ⟨v, hv, hc⟩ := hR.at hlt
        by_cases hjl : j < l0
        · by_cases hj20 : j < 20
          · rcases hR.2.1 with h0 | ⟨b, off, rfl, hbl, hx⟩
            · omega
            obtain ⟨p0, p2, d0, d1, d2, d3⟩ := hx j hjl
            clear hx
            have hki : (k : Int) < 2 := by omega
            generalize X j = x at p0 p2 d0 d1 d2 d3
            obtain ⟨kd, pg, bt, fr⟩ := x
            simp only at p0 p2 d0 d1 d2 d3
            go_wp2_with fail
            go_still_tail 8, (by kernel_rfl)
            change wpList _ _ _ _ _ wr.drew
            have hR1 := hR.same (Keeps.drew (Keeps.refl _ wr))
            have hv1 : NoTLB wr.drew v := hv.keeps (Keeps.drew (Keeps.refl (fun _ => False) wr)) (fun _ => id)
            have HR1 := hidE  hR1
            clear hR1 hR
            go_wp2_with fail
            refine (do_no hv1 _ _ _ _).mono ?_
            rintro e w2 ⟨rfl, hk2⟩
            have hR2 := HR1.out.same hk2
            have hv2 := hv1.keeps hk2 (fun _ => id)
            have hc2 : w2.cell? ⟨w.heap.size + 1, k, none⟩ = some v := by
              rw [(same_below hk2).cell (p := ⟨w.heap.size + 1, k, none⟩) (lt_of_cell (p := ⟨w.heap.size + 1, k, none⟩) (by simpa using hc))]; simpa using hc
            have d1' : w2.cell? ⟨b, off + j * 4 + 1, none⟩ = some (.int .u32 pg) := by
              rw [(same_below hk2).cell (p := ⟨b, off + j * 4 + 1, none⟩) hbl]; simpa using d1
            have HR2 := hidE  hR2
            clear hR2 d0 d1 d2 d3 hk2 HR1 hv1 hc hv
            go_wp2_with fail
            go_quiet ((go_at_call 10; exact Calls.quiet_of_same ((look_no (hv2.keeps ((Keeps.refl (fun _ => False) w2).drewN _) (fun _ => id)) _).mono fun _ _ x => ⟨x.1, x.2.symm⟩)))
            rename_i nq
            go_wp2
            go_roundw
            case rel => exact ⟨j + 1, by go_num, by omega, by omega, HR2.out.same ((Keeps.refl _ _).drewN _)⟩
            case measure => simp [intOf]; omega
          · have hj' : ¬ (j : Int) < 20 := by omega
            have HR := hidE  hR
            clear hR
            go_wp2_with fail
            refine (counts_no hv).mono ?_
            rintro e w2 ⟨rfl, rfl⟩
            go_wp2
            go_roundw
            case rel => exact ⟨k + 1, by go_num, by omega, HR.out⟩
            case measure => simp [intOf]; omega
        · have HR := hidE  hR
          clear hR
          go_wp2_with fail
          refine (counts_no hv).mono ?_
          rintro e w2 ⟨rfl, rfl⟩
          go_wp2
          go_roundw
          case rel => exact ⟨k + 1, by go_num, by omega, HR.out⟩
          case measure => simp [intOf]; omega
    · have HR := hidE  hR
      clear hR
      go_wp2_with fail
      refine (made_any 3 _).mono ?_
      rintro e w1 ⟨rfl, hk, hT⟩
      go_wp2
      go_ret
      exact ⟨rfl, HR.out.1.trans (Keeps.below hk HR.out.1.size (fun _ _ => id))⟩
end Go.Proofs.Ytebponllpjpbeaa
