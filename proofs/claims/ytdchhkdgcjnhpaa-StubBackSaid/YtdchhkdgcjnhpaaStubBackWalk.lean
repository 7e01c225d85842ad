/- The walk of the statement StubBack. -/
import Derived.Test.YtdchhkdgcjnhpaaStubC
import Derived.Test.YtdchhkdgcjnhpaaRead
namespace Go.Proofs.Ytdchhkdgcjnhpaa
open Go.RowKit

theorem row_by {w : World} {B : Nat} {v : Value} {xs : List Int} (h : RowB w B v xs) (hne : xs ≠ []) (hb : ∀ x ∈ xs, 0 ≤ x ∧ x < 256) :
    ∃ g cap, v = .slice (some ⟨g, 0, none⟩) xs.length cap ∧ xs.length ≤ cap ∧ g < w.heap.size ∧ Bytes w g 0 xs.length (fun j => xs.getD j 0) := by
  rcases h.2 with ⟨-, h0⟩ | ⟨g, cap, cur, rfl, -, hg, hc, -⟩
  · exact absurd (List.eq_nil_of_length_eq_zero h0) hne
  · refine ⟨g, cap, rfl, hc, lt_of_block hg, fun i hi => ?_⟩
    have hc := World.ownsRow.cells (g := g) h rfl i (.int .u8 (xs.getD i 0)) (by simp [List.getElem?_eq_getElem (show i < xs.length by omega), List.getD_eq_getElem?_getD])
    have ha : (⟨g, 0, none⟩ : Addr).add i = ⟨g, 0 + i, none⟩ := by unfold Addr.add; split <;> simp_all
    rw [ha] at hc
    have hm := hb (xs.getD i 0) (by simp [List.getD_eq_getElem?_getD, List.getElem?_eq_getElem hi])
    exact ⟨hm.1, hm.2, hc⟩
set_option maxHeartbeats 2000000 in
set_option maxRecDepth 100000 in
theorem stubBack_walk (w : World) (x0 : Int) (h0 : RdV Try.prog w 5 [.int .u8 x0]) (x1 : Int) (h1 : RdV Try.prog w 34 [.int .u16 x1]) (x2 : Int) (h2 : RdV Try.prog w 5 [.int .u8 x2]) :
    Calls Try.prog 6 #[.int .u8 x0, .int .u16 x1, .int .u8 x2] w fun e w' => e = .returned (.bool true) ∧ Below w.heap.size w w' := by
  obtain ⟨_, hx, l0, m0⟩ := RdV.int (k := .u8) h0 Try.underlying5
  cases hx
  obtain ⟨_, hx, l1, m1⟩ := RdV.int (k := .u16) h1 Try.underlying34
  cases hx
  obtain ⟨_, hx, l2, m2⟩ := RdV.int (k := .u8) h2 Try.underlying5
  cases hx
  simp [IntKind.min, IntKind.max, IntKind.bits, IntKind.signed] at l0 m0 l1 m1 l2 m2
  clear h0 h1 h2
  have hL : ∀ x ∈ stubL x0 x1, 0 ≤ x ∧ x < 256 := by
    simp [stubL]; omega
  have hL2 : ∀ x ∈ stubL x0 x1 ++ [x2], 0 ≤ x ∧ x < 256 := by
    simp [stubL]; omega
  have r5 : readL (fun j => (stubL x0 x1).getD j 0) 5 = (x0, x1, true) := by
    simp [readL, stubL]; omega
  have HL := hidE  hL
  have HL2 := hidE  hL2
  clear hL hL2
  go_enter Try.func6, Try.ntmps6
  go_wp2_with fail
  refine (stub_yes x0 x1 (by omega) (by omega) (by omega) (by omega) _).mono ?_
  rintro e w1 ⟨v, rfl, hv, hk⟩
  obtain ⟨g, cap, rfl, hcap, hgl, hB⟩ := row_by hv (by simp [stubL]) HL.out
  rw [show (stubL x0 x1).length = 5 from rfl] at hcap hB
  have HV := hidE  hv
  have HB := hidE  hB
  clear hv hB
  have hcap' : (5 : Int) ≤ cap := by omega
  simp only [show (stubL x0 x1).length = 5 from rfl] at *
  go_wp2_with fail
  refine (read_any (some ⟨g, 0, none⟩) 5 cap _ _ hcap (.inr ⟨g, 0, rfl, hgl, HB.out⟩)).mono ?_
  rintro e w2 ⟨rfl, hk2⟩
  rw [r5]
  simp only [readV]
  clear r5
  go_wp2_with fail
  refine (read_any (some ⟨g, 0, none⟩) 4 cap (fun j => (stubL x0 x1).getD j 0) _ (by omega) (.inr ⟨g, 0, rfl, Nat.lt_of_lt_of_le hgl hk2.size, fun j hj => HB.out.keeps hk2 id j (by omega)⟩)).mono ?_
  rintro e w3 ⟨rfl, hk3⟩
  rw [show readL (fun j => (stubL x0 x1).getD j 0) 4 = (0, 0, false) from by simp [readL]]
  simp only [readV]
  have hv3 := owns_keeps (owns_keeps HV.out hk2 (fun _ _ => id)) hk3 (fun _ _ => id)
  have hs3 := (hk.trans hk2).trans hk3
  have hsz := hs3.size
  go_wp2_with (at_builtin; go_loud (refine append_byte rfl (.tmp 47) (.tmp 49) rfl w.heap.size _ (stubL x0 x1) rfl _ x2 rfl (World.ownsRow.alloc hv3 _) (block_new _ _) (by simp [stubL]) (by simp; omega) ?h2))
  case h2 =>
    intro v' w4 hv4 hk4
    obtain ⟨g4, cap4, rfl, hc4, hg4, hB4⟩ := row_by hv4 (by simp) HL2.out
    simp only [show (stubL x0 x1 ++ [x2]).length = 6 from rfl] at *
    have HK := hidE  hk4
    have HB4 := hidE  hB4
    clear hv4 hv3 hk4 hB4
    go_wp2_with fail
    refine (read_any (some ⟨g4, 0, none⟩) 6 cap4 _ _ hc4 (.inr ⟨g4, 0, rfl, hg4, HB4.out⟩)).mono ?_
    rintro e w5 ⟨rfl, hk5⟩
    rw [show ∀ X, readL X 6 = (0, 0, false) from fun X => by simp [readL]]
    simp only [readV]
    go_wp2_with fail
    refine (works_19 _).mono ?_
    rintro e w6 ⟨rfl, hk6⟩
    go_wp2
    go_ret
    exact ⟨rfl, same_below (((same_then (hs3.alloc _) HK.out (fun k h => h.1)).trans hk5).trans hk6)⟩
end Go.Proofs.Ytdchhkdgcjnhpaa
