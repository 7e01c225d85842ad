/- The walks through package stub, and through its reference. -/
import Derived.Test.YtomphgpplbekiaaGreatStub
namespace Go.Proofs.YtomphgpplbekiaaGreat
open Go.RowKit

theorem row_conv {w : World} {B : Nat} {v : Value} {xs : List Int} (h : RowB w B v xs) : (convert 57 9 v).run Tryz.prog w = .ok (.string (strOfNums xs)) w := by
  rcases h.2 with ⟨rfl, h0⟩ | ⟨g, cap, cur, rfl, _⟩
  · obtain rfl : xs = [] := List.eq_nil_of_length_eq_zero h0
    exact run_convert_bytes_nil w _ 5 Tryz.underlying57 Tryz.underlying5 0 0 _ Tryz.underlying9
  · refine run_convert_bytes_arg w _ 5 Tryz.underlying57 Tryz.underlying5 g 0 _ cap xs rfl (fun i hi => ?_) _ Tryz.underlying9
    have hc := World.ownsRow.cells (g := g) h rfl i (.int .u8 (xs.getD i 0)) (by simp [List.getElem?_eq_getElem (show i < xs.length by omega), List.getD_eq_getElem?_getD])
    have ha : (⟨g, 0, none⟩ : Addr).add i = ⟨g, 0 + i, none⟩ := by unfold Addr.add; split <;> simp_all
    rwa [ha] at hc

def stubL (a b : Int) : List Int := [112, a, 113, b % 256, b / 256]
theorem may_112 (a : Int) (a0 : 0 ≤ a) (a1 : a ≤ 255) : mayB ⟨112, 0, 0, a⟩ true = true := by
  simp [mayB, show formL 112 true = ⟨2, 0, 0, 1, 0⟩ from rfl, fitsB]; omega
theorem may_113 (b : Int) (a0 : 0 ≤ b) (a1 : b ≤ 65535) : mayB ⟨113, 0, 0, b⟩ true = true := by
  simp [mayB, show formL 113 true = ⟨3, 0, 0, 2, 0⟩ from rfl, fitsB]; omega
theorem stub_bytes (a b : Int) (a0 : 0 ≤ a) (a1 : a ≤ 255) (b0 : 0 ≤ b) (b1 : b ≤ 65535) : bytesL [⟨112, 0, 0, a⟩, ⟨113, 0, 0, b⟩] = stubL a b := by
  simp [bytesL, encL, headL, immL, show formL 112 true = ⟨2, 0, 0, 1, 0⟩ from rfl, show formL 113 true = ⟨3, 0, 0, 2, 0⟩ from rfl, stubL]
  omega
def RetRow (w : World) (B : Nat) (xs : List Int) (n : Int) (e : Ending) (w' : World) : Prop := ∃ v, e = .returned (.tuple #[v, .int .i64 n]) ∧ RowB w' B v xs ∧ Same w w'
theorem RetRow.mono {w w1 w' : World} {B : Nat} {xs : List Int} {n : Int} {e : Ending} (h : RetRow w1 B xs n e w') (hk : Same w w1) : RetRow w w.heap.size xs n e w' ∨ B < w.heap.size := by
  rcases Nat.lt_or_ge B w.heap.size with hB | hB
  · exact .inr hB
  · obtain ⟨v, h1, h2, h3⟩ := h
    exact .inl ⟨v, h1, owns_mono h2 hB, hk.trans h3⟩

set_option maxHeartbeats 1000000 in
theorem stub_no (a b : Int) (a0 : -9223372036854775808 ≤ a) (a1 : a ≤ 9223372036854775807) (b0 : -9223372036854775808 ≤ b) (b1 : b ≤ 9223372036854775807) (h : ¬ (0 ≤ a ∧ a ≤ 255 ∧ 0 ≤ b ∧ b ≤ 65535)) (w : World) :
    Calls Tryz.prog 91 #[.int .i64 a, .int .i64 b] w fun e w' => e = .returned (.tuple #[.slice none 0 0, .int .i64 2]) ∧ Same w w' := by
  go_enter Tryz.func91, Tryz.ntmps91
  by_cases c1 : a < 0 <;> by_cases c2 : 255 < a <;> by_cases c3 : b < 0 <;> by_cases c4 : 65535 < b <;> (first | (exfalso; omega) | (go_wp2; go_ret2; exact ⟨rfl, Keeps.refl _ _⟩))
set_option maxHeartbeats 1000000 in
theorem stub_yes (a b : Int) (a0 : 0 ≤ a) (a1 : a ≤ 255) (b0 : 0 ≤ b) (b1 : b ≤ 65535) (w : World) :
    Calls Tryz.prog 91 #[.int .i64 a, .int .i64 b] w (RetRow w w.heap.size (stubL a b) 0) := by
  go_enter Tryz.func91, Tryz.ntmps91
  go_wp2_with fail
  refine (laid_2 ⟨112, 0, 0, a⟩ ⟨113, 0, 0, b⟩ ⟨by simp, by simp, by simp, by simp, by simp, by simp, by simp; omega, by simp; omega⟩ (may_112 a a0 a1) ⟨by simp, by simp, by simp, by simp, by simp, by simp, by simp; omega, by simp; omega⟩ (may_113 b b0 b1) _ _ 2 (block_new _ _)).mono ?_
  rintro e w1 ⟨v, rfl, hv, hk⟩
  rw [stub_bytes a b a0 a1 b0 b1] at hv
  go_wp2
  go_ret2
  exact ⟨_, rfl, owns_mono hv (by simp), ((Keeps.refl _ _).alloc _).trans hk⟩

def jmpL (d : Int) : List Int := [64, d % 256, d / 256 % 256]
theorem may_64 (d : Int) (a0 : -32768 ≤ d) (a1 : d ≤ 32767) : mayB ⟨64, 0, 0, d⟩ true = true := by
  simp [mayB, show formL 64 true = ⟨3, 0, 0, 2, 1⟩ from rfl, fitsB]; omega
theorem jmp_bytes (d : Int) : bytesL [⟨64, 0, 0, d⟩] = jmpL d := by
  simp [bytesL, encL, headL, immL, show formL 64 true = ⟨3, 0, 0, 2, 1⟩ from rfl, jmpL]
theorem size_64 : (formL 64 true).n = 3 := rfl
set_option maxHeartbeats 1000000 in
theorem jump_no (a b : Int) (a0 : -9223372036854775808 ≤ a) (a1 : a ≤ 9223372036854775807) (b0 : -9223372036854775808 ≤ b) (b1 : b ≤ 9223372036854775807) (h : ¬ (0 ≤ a ∧ a ≤ 32767 ∧ 0 ≤ b ∧ b ≤ 32767)) (w : World) :
    Calls Tryz.prog 59 #[.int .i64 a, .int .i64 b] w fun e w' => e = .returned (.tuple #[.slice none 0 0, .int .i64 2]) ∧ Same w w' := by
  go_enter Tryz.func59, Tryz.ntmps59
  by_cases c1 : a < 0 <;> by_cases c2 : 32767 < a <;> by_cases c3 : b < 0 <;> by_cases c4 : 32767 < b <;> (first | (exfalso; omega) | (go_wp2; go_ret2; exact ⟨rfl, Keeps.refl _ _⟩))
set_option maxHeartbeats 1000000 in
theorem jump_far (a b : Int) (a0 : 0 ≤ a) (a1 : a ≤ 32767) (b0 : 0 ≤ b) (b1 : b ≤ 32767) (h : b - a - 3 < -32768) (w : World) :
    Calls Tryz.prog 59 #[.int .i64 a, .int .i64 b] w fun e w' => e = .returned (.tuple #[.slice none 0 0, .int .i64 3]) ∧ Same w w' := by
  have HZ := hidE  (size_any 64 true (by omega) (by omega))
  rw [size_64] at HZ
  go_enter Tryz.func59, Tryz.ntmps59
  go_wp2_with fail
  refine (HZ.out _).mono ?_
  rintro e w1 ⟨rfl, hk⟩
  go_wp2
  go_ret2
  exact ⟨rfl, hk⟩
set_option maxHeartbeats 1000000 in
theorem jump_yes (a b : Int) (a0 : 0 ≤ a) (a1 : a ≤ 32767) (b0 : 0 ≤ b) (b1 : b ≤ 32767) (h : -32768 ≤ b - a - 3) (w : World) :
    Calls Tryz.prog 59 #[.int .i64 a, .int .i64 b] w (RetRow w w.heap.size (jmpL (b - a - 3)) 0) := by
  have HZ := hidE  (size_any 64 true (by omega) (by omega))
  rw [size_64] at HZ
  go_enter Tryz.func59, Tryz.ntmps59
  go_wp2_with fail
  refine (HZ.out _).mono ?_
  rintro e w1 ⟨rfl, hk1⟩
  have hz1 := hk1.size
  go_wp2_with fail
  refine (laid_1 ⟨64, 0, 0, b - a - 3⟩ ⟨by simp, by simp, by simp, by simp, by simp, by simp, by simp; omega, by simp; omega⟩ (may_64 _ h (by omega)) _ _ 1 (block_new _ _)).mono ?_
  rintro e w2 ⟨v, rfl, hv, hk⟩
  rw [jmp_bytes] at hv
  go_wp2
  go_ret2
  exact ⟨_, rfl, owns_mono hv (by simp; omega), (hk1.alloc _).trans hk⟩

/-! ### the document's -/
set_option maxHeartbeats 1000000 in
theorem ref_stub (a b : Int) (a0 : 0 ≤ a) (a1 : a ≤ 255) (b0 : 0 ≤ b) (b1 : b ≤ 65535) (w : World) :
    Calls Tryz.prog 128 #[.int .i64 a, .int .i64 b] w fun e w' => ∃ v, e = .returned v ∧ RowB w' w.heap.size v (stubL a b) ∧ Same w w' := by
  go_enter Tryz.func128, Tryz.ntmps128
  go_wp2
  go_ret
  exact ⟨_, rfl, ⟨rfl, .inr ⟨_, 5, _, rfl, Nat.le_refl _, block_new _ _, Nat.le_refl _, by decide, rfl, rfl⟩⟩, (Keeps.refl _ _).alloc _⟩
def RefJ (a b : Int) : List Int × Int := if 0 ≤ a ∧ a ≤ 32767 ∧ 0 ≤ b ∧ b ≤ 32767 then (if b - a - 3 < -32768 then ([], 3) else (jmpL (b - a - 3), 0)) else ([], 2)
end Go.Proofs.YtomphgpplbekiaaGreat
