/- The walks through package stub, and through its reference. -/
import Derived.Test.YtdbfjgmehmbefaaStub
namespace Go.Proofs.Ytdbfjgmehmbefaa
open Go.RowKit

theorem row_conv {w : World} {B : Nat} {v : Value} {xs : List Int} (h : RowB w B v xs) : (convert 49 9 v).run Try.prog w = .ok (.string (strOfNums xs)) w := by
  rcases h.2 with ⟨rfl, h0⟩ | ⟨g, cap, cur, rfl, _⟩
  · obtain rfl : xs = [] := List.eq_nil_of_length_eq_zero h0
    exact run_convert_bytes_nil w _ 5 Try.underlying49 Try.underlying5 0 0 _ Try.underlying9
  · refine run_convert_bytes_arg w _ 5 Try.underlying49 Try.underlying5 g 0 _ cap xs rfl (fun i hi => ?_) _ Try.underlying9
    have hc := World.ownsRow.cells (g := g) h rfl i (.int .u8 (xs.getD i 0)) (by simp [List.getElem?_eq_getElem (show i < xs.length by omega), List.getD_eq_getElem?_getD])
    have ha : (⟨g, 0, none⟩ : Addr).add i = ⟨g, 0 + i, none⟩ := by unfold Addr.add; split <;> simp_all
    rwa [ha] at hc

def stubL (a b : Int) : List Int := [112, a, 113, b % 256, b / 256]
theorem may_112 (a : Int) (a0 : 0 ≤ a) (a1 : a ≤ 255) : mayB ⟨112, 0, 0, a⟩ true = true := by
  simp [mayB, show formL 112 true = ⟨2, 0, 0, 1, 0⟩ from rfl, fitsB]; omega
theorem may_113 (b : Int) (a0 : 0 ≤ b) (a1 : b ≤ 65535) : mayB ⟨113, 0, 0, b⟩ true = true := by
  simp [mayB, show formL 113 true = ⟨3, 0, 0, 2, 0⟩ from rfl, fitsB]; omega
theorem stub_bytes (a b : Int) (a0 : 0 ≤ a) (a1 : a ≤ 255) (b0 : 0 ≤ b) (b1 : b ≤ 65535) : bytesL [⟨112, 0, 0, a⟩, ⟨113, 0, 0, b⟩] = stubL a b := by
  simp [bytesL, encL, headL, immL, show formL 112 true = ⟨2, 0, 0, 1, 0⟩ from rfl, show formL 113 true = ⟨3, 0, 0, 2, 0⟩ from rfl, stubL]
  omega
def RetRow (w : World) (B : Nat) (xs : List Int) (n : Int) (e : Ending) (w' : World) : Prop := ∃ v, e = .returned (.tuple #[v, .int .i64 n]) ∧ RowB w' B v xs ∧ Same w w'
theorem RetRow.mono {w w1 w' : World} {B : Nat} {xs : List Int} {n : Int} {e : Ending} (h : RetRow w1 B xs n e w') (hk : Same w w1) : RetRow w w.heap.size xs n e w' ∨ B < w.heap.size := by
  rcases Nat.lt_or_ge B w.heap.size with hB | hB
  · exact .inr hB
  · obtain ⟨v, h1, h2, h3⟩ := h
    exact .inl ⟨v, h1, owns_mono h2 hB, hk.trans h3⟩

set_option maxHeartbeats 1000000 in
theorem stub_no (a b : Int) (a0 : -9223372036854775808 ≤ a) (a1 : a ≤ 9223372036854775807) (b0 : -9223372036854775808 ≤ b) (b1 : b ≤ 9223372036854775807) (h : ¬ (0 ≤ a ∧ a ≤ 255 ∧ 0 ≤ b ∧ b ≤ 65535)) (w : World) :
    Calls Try.prog 55 #[.int .i64 a, .int .i64 b] w fun e w' => e = .returned (.tuple #[.slice none 0 0, .int .i64 2]) ∧ Same w w' := by
  go_enter Try.func55, Try.ntmps55
  by_cases c1 : a < 0 <;> by_cases c2 : 255 < a <;> by_cases c3 : b < 0 <;> by_cases c4 : 65535 < b <;> (first | (exfalso; omega) | (go_wp2; go_ret2; exact ⟨rfl, Keeps.refl _ _⟩))
set_option maxHeartbeats 1000000 in
theorem stub_yes (a b : Int) (a0 : 0 ≤ a) (a1 : a ≤ 255) (b0 : 0 ≤ b) (b1 : b ≤ 65535) (w : World) :
    Calls Try.prog 55 #[.int .i64 a, .int .i64 b] w (RetRow w w.heap.size (stubL a b) 0) := by
  go_enter Try.func55, Try.ntmps55
  go_wp2_with fail
  refine (laid_2 ⟨112, 0, 0, a⟩ ⟨113, 0, 0, b⟩ ⟨by simp, by simp, by simp, by simp, by simp, by simp, by simp; omega, by simp; omega⟩ (may_112 a a0 a1) ⟨by simp, by simp, by simp, by simp, by simp, by simp, by simp; omega, by simp; omega⟩ (may_113 b b0 b1) _ _ 2 (block_new _ _)).mono ?_
  rintro e w1 ⟨v, rfl, hv, hk⟩
  rw [stub_bytes a b a0 a1 b0 b1] at hv
  go_wp2
  go_ret2
  exact ⟨_, rfl, owns_mono hv (by simp), ((Keeps.refl _ _).alloc _).trans hk⟩

def jmpL (d : Int) : List Int := [64, d % 256, d / 256 % 256]
theorem may_64 (d : Int) (a0 : -32768 ≤ d) (a1 : d ≤ 32767) : mayB ⟨64, 0, 0, d⟩ true = true := by
  simp [mayB, show formL 64 true = ⟨3, 0, 0, 2, 1⟩ from rfl, fitsB]; omega
theorem jmp_bytes (d : Int) : bytesL [⟨64, 0, 0, d⟩] = jmpL d := by
  simp [bytesL, encL, headL, immL, show formL 64 true = ⟨3, 0, 0, 2, 1⟩ from rfl, jmpL]
theorem size_64 : (formL 64 true).n = 3 := rfl
set_option maxHeartbeats 1000000 in
theorem jump_no (a b : Int) (a0 : -9223372036854775808 ≤ a) (a1 : a ≤ 9223372036854775807) (b0 : -9223372036854775808 ≤ b) (b1 : b ≤ 9223372036854775807) (h : ¬ (0 ≤ a ∧ a ≤ 32767 ∧ 0 ≤ b ∧ b ≤ 32767)) (w : World) :
    Calls Try.prog 25 #[.int .i64 a, .int .i64 b] w fun e w' => e = .returned (.tuple #[.slice none 0 0, .int .i64 2]) ∧ Same w w' := by
  go_enter Try.func25, Try.ntmps25
  by_cases c1 : a < 0 <;> by_cases c2 : 32767 < a <;> by_cases c3 : b < 0 <;> by_cases c4 : 32767 < b <;> (first | (exfalso; omega) | (go_wp2; go_ret2; exact ⟨rfl, Keeps.refl _ _⟩))
set_option maxHeartbeats 1000000 in
theorem jump_far (a b : Int) (a0 : 0 ≤ a) (a1 : a ≤ 32767) (b0 : 0 ≤ b) (b1 : b ≤ 32767) (h : b - a - 3 < -32768) (w : World) :
    Calls Try.prog 25 #[.int .i64 a, .int .i64 b] w fun e w' => e = .returned (.tuple #[.slice none 0 0, .int .i64 3]) ∧ Same w w' := by
  have HZ := hidE  (size_any 64 true (by omega) (by omega))
  rw [size_64] at HZ
  go_enter Try.func25, Try.ntmps25
  go_wp2_with fail
  refine (HZ.out _).mono ?_
  rintro e w1 ⟨rfl, hk⟩
  go_wp2
  go_ret2
  exact ⟨rfl, hk⟩
set_option maxHeartbeats 1000000 in
theorem jump_yes (a b : Int) (a0 : 0 ≤ a) (a1 : a ≤ 32767) (b0 : 0 ≤ b) (b1 : b ≤ 32767) (h : -32768 ≤ b - a - 3) (w : World) :
    Calls Try.prog 25 #[.int .i64 a, .int .i64 b] w (RetRow w w.heap.size (jmpL (b - a - 3)) 0) := by
  have HZ := hidE  (size_any 64 true (by omega) (by omega))
  rw [size_64] at HZ
  go_enter Try.func25, Try.ntmps25
  go_wp2_with fail
  refine (HZ.out _).mono ?_
  rintro e w1 ⟨rfl, hk1⟩
  have hz1 := hk1.size
  go_wp2_with fail
  refine (laid_1 ⟨64, 0, 0, b - a - 3⟩ ⟨by simp, by simp, by simp, by simp, by simp, by simp, by simp; omega, by simp; omega⟩ (may_64 _ h (by omega)) _ _ 1 (block_new _ _)).mono ?_
  rintro e w2 ⟨v, rfl, hv, hk⟩
  rw [jmp_bytes] at hv
  go_wp2
  go_ret2
  exact ⟨_, rfl, owns_mono hv (by simp; omega), (hk1.alloc _).trans hk⟩

theorem works_19 (w : World) : Calls Try.prog 26 #[] w fun e w' => e = .returned (.bool true) ∧ Same w w' := by
  go_enter Try.func26, Try.ntmps26
  go_wp2_with fail
  refine (stub_yes 3 258 (by omega) (by omega) (by omega) (by omega) _).mono ?_
  rintro e w1 ⟨v, rfl, hv, hk⟩
  have hc := row_conv hv
  have hw : ((strOfNums (stubL 3 258)).toList == [112, 3, 113, 2, 1]) = true := by kernel_rfl
  go_wp2
  go_ret
  exact ⟨rfl, hk⟩

theorem row_by {w : World} {B : Nat} {v : Value} {xs : List Int} (h : RowB w B v xs) (hne : xs ≠ []) (hb : ∀ x ∈ xs, 0 ≤ x ∧ x < 256) :
    ∃ g cap, v = .slice (some ⟨g, 0, none⟩) xs.length cap ∧ xs.length ≤ cap ∧ g < w.heap.size ∧ Bytes w g 0 xs.length (fun j => xs.getD j 0) := by
  rcases h.2 with ⟨-, h0⟩ | ⟨g, cap, cur, rfl, -, hg, hc, -⟩
  · exact absurd (List.eq_nil_of_length_eq_zero h0) hne
  · refine ⟨g, cap, rfl, hc, lt_of_block hg, fun i hi => ?_⟩
    have hc := World.ownsRow.cells (g := g) h rfl i (.int .u8 (xs.getD i 0)) (by simp [List.getElem?_eq_getElem (show i < xs.length by omega), List.getD_eq_getElem?_getD])
    have ha : (⟨g, 0, none⟩ : Addr).add i = ⟨g, 0 + i, none⟩ := by unfold Addr.add; split <;> simp_all
    rw [ha] at hc
    have hm := hb (xs.getD i 0) (by simp [List.getD_eq_getElem?_getD, List.getElem?_eq_getElem hi])
    exact ⟨hm.1, hm.2, hc⟩
theorem may_64g (d : Int) (a0 : -32768 ≤ d) (a1 : d ≤ 32767) : mayB ⟨64, 0, 0, d⟩ false = true := by
  simp [mayB, show formL 64 false = ⟨3, 0, 0, 2, 1⟩ from rfl, fitsB]; omega
theorem dec_64 (X : Nat → Int) (d : Int) (h0 : X 0 = 64) (h1 : X 1 = d % 256) (h2 : X 2 = d / 256 % 256) (a0 : -32768 ≤ d) (a1 : d ≤ 32767) : decL X 3 false = (In.mk 64 0 0 d, 3, 0) := by
  have e : insOf X ⟨3, 0, 0, 2, 1⟩ = In.mk 64 0 0 d := by
    simp [insOf, leN, numL, h0, h1, h2]
    split <;> omega
  simp only [decL, h0, show formL 64 false = ⟨3, 0, 0, 2, 1⟩ from rfl, e, may_64g d a0 a1]
  rw [if_neg (by omega), if_neg (by omega), if_neg (by omega), if_pos trivial]
end Go.Proofs.Ytdbfjgmehmbefaa
