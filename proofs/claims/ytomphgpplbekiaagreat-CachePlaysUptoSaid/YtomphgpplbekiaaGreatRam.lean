/- Package ram: a memory, as blocks; Size, within, at, Byte, Word. All frames of a memory lie in ONE block of bytes (a window's too). -/
import Derived.Test.YtomphgpplbekiaaGreatRows
import Derived.Test.YtomphgpplbekiaaGreatHeap
import Derived.WalkKit
import Derived.WalkSpells
import Derived.WalkLawsBesides
import Derived.Deep.QuietTactic
import Derived.BigQuiet
import Derived.Laws.CopyOwn
import Derived.Laws.BitsAllLaws
namespace Go.Proofs.YtomphgpplbekiaaGreat
open Go.RowKit

/-- Where a memory lies: its own block, that of its frames (so many, and so many may be), that of the bytes, and where each frame is there. -/
structure RamAt where
  b : Nat
  S : Nat
  n : Nat
  cap : Nat
  A : Nat
  F : Nat → Nat
def RamAt.pos (R : RamAt) (i : Nat) : Nat := 64 * R.F (i / 64) + i % 64
def RamAt.get (R : RamAt) (M : List Int) (i : Nat) : Int := M.getD (R.pos i) 0
structure IsRam (w : World) (R : RamAt) (M : List Int) : Prop where
  hb : w.heap[R.b]? = some (.cells #[.slice (some ⟨R.S, 0, none⟩) R.n R.cap] 141 (0, 0))
  hS : ∃ cs : Array Value, w.heap[R.S]? = some (.cells cs 57 (0, 0)) ∧ ∀ k, k < R.n → cs[k]? = some (.slice (some ⟨R.A, 64 * R.F k, none⟩) 64 64)
  hA : w.heap[R.A]? = some (.cells (M.map (Value.int .u8)).toArray 5 (0, 0))
  fit : ∀ k, k < R.n → 64 * R.F k + 64 ≤ M.length
  inj : ∀ k l, k < R.n → l < R.n → R.F k = R.F l → k = l
  n1 : 1 ≤ R.n
  n2 : R.n ≤ 512
  cap2 : R.n ≤ R.cap
  bytes : ∀ x ∈ M, 0 ≤ x ∧ x < 256
  bS : R.b ≠ R.S
  bA : R.b ≠ R.A
  SA : R.S ≠ R.A
theorem IsRam.keeps {F : Nat → Prop} {w w' : World} {R : RamAt} {M : List Int} (h : IsRam w R M) (k : Keeps F w w') (hb : ¬ F R.b) (hS : ¬ F R.S) (hA : ¬ F R.A) : IsRam w' R M :=
  ⟨k.get h.hb hb, let ⟨cs, h1, h2⟩ := h.hS; ⟨cs, k.get h1 hS, h2⟩, k.get h.hA hA, h.fit, h.inj, h.n1, h.n2, h.cap2, h.bytes, h.bS, h.bA, h.SA⟩
theorem IsRam.same {w w' : World} {R : RamAt} {M : List Int} (h : IsRam w R M) (k : Same w w') : IsRam w' R M := h.keeps k id id id
section
variable {w : World} {R : RamAt} {M : List Int} (H : IsRam w R M)
include H
theorem IsRam.c0 : w.cell? ⟨R.b, 0, none⟩ = some (.slice (some ⟨R.S, 0, none⟩) R.n R.cap) := by rw [cell_of H.hb]; rfl
theorem IsRam.cS {k : Nat} (hk : k < R.n) : w.cell? ⟨R.S, k, none⟩ = some (.slice (some ⟨R.A, 64 * R.F k, none⟩) 64 64) := by
  obtain ⟨cs, h1, h2⟩ := H.hS
  rw [cell_of h1]; exact h2 k hk
theorem IsRam.lt {i : Nat} (hi : i < 64 * R.n) : R.pos i < M.length := by
  have := H.fit (i / 64) (by omega)
  unfold RamAt.pos; omega
theorem IsRam.cA {i : Nat} (hi : i < 64 * R.n) : w.cell? ⟨R.A, R.pos i, none⟩ = some (.int .u8 (R.get M i)) := by
  have := H.lt hi
  rw [cell_of H.hA]
  simp [RamAt.get, this]
theorem IsRam.byte {i : Nat} (hi : i < 64 * R.n) : 0 ≤ R.get M i ∧ R.get M i < 256 := by
  have := H.lt hi
  refine H.bytes _ ?_
  simp [RamAt.get, this]
end

set_option maxHeartbeats 400000 in
theorem size_nil (w : World) : Calls Tryz.prog 66 #[.pointer none] w fun e w' => e = .returned (.int .u32 0) ∧ w = w' := by
  go_enter Tryz.func66, Tryz.ntmps66
  go_wp2
  go_ret
  exact ⟨rfl, rfl⟩
set_option maxHeartbeats 400000 in
theorem size_ram {R : RamAt} {M : List Int} (w : World) (H : IsRam w R M) : Calls Tryz.prog 66 #[.pointer (some ⟨R.b, 0, none⟩)] w fun e w' => e = .returned (.int .u32 (64 * R.n)) ∧ w = w' := by
  have c0 := H.c0
  have n1 := H.n1
  have n2 := H.n2
  have e1 := wrapI ((R.n : Int) * 64) (by omega) (by omega)
  have e2 : IntKind.u32.wrap ((R.n : Int) * 64) = 64 * R.n := by simp [IntKind.wrap, IntKind.bits, IntKind.signed]; omega
  go_enter Tryz.func66, Tryz.ntmps66
  go_wp2
  go_ret
  exact ⟨rfl, rfl⟩

set_option maxHeartbeats 800000 in
theorem within_ram {R : RamAt} {M : List Int} (w : World) (H : IsRam w R M) (a n al : Int) (ha : 0 ≤ a) (ha2 : a < 4294967296) (hn : 0 ≤ n) (hn2 : n ≤ 9223372036854775807) (hal : 0 < al) (hal2 : al < 1000) :
    Calls Tryz.prog 50 #[.pointer (some ⟨R.b, 0, none⟩), .int .u32 a, .int .i64 n, .int .i64 al] w fun e w' => e = .returned (.bool (decide (a % al = 0) && decide (n ≤ 64 * R.n) && decide (a ≤ 64 * R.n - n))) ∧ w = w' := by
  have n1 := H.n1
  have n2 := H.n2
  have h0 : (al == 0) = false := by simp; omega
  have m1 := Int.emod_nonneg a (show al ≠ 0 by omega)
  have m2 := Int.emod_lt_of_pos a hal
  have e1 := wrapI a (by omega) (by omega)
  have e2 : a.tmod al = a % al := Int.tmod_eq_emod_of_nonneg ha
  have e3 := wrapI (a % al) (by omega) (by omega)
  have e4 := wrapI (64 * (R.n : Int)) (by omega) (by omega)
  go_enter Tryz.func50, Tryz.ntmps50
  go_wp2_with (go_at_call 66; refine (size_ram _ H).mono ?_; rintro _ w1 ⟨rfl, rfl⟩)
  all_goals (go_ret; refine ⟨?_, rfl⟩)
  all_goals (have hx1 : ∀ x y : Int, ¬ x ≤ y ↔ y < x := fun x y => by omega)
  all_goals (simp [*])
  all_goals omega

set_option maxHeartbeats 800000 in
theorem at_ram {R : RamAt} {M : List Int} (w : World) (H : IsRam w R M) (a : Nat) (ha : a < 64 * R.n) :
    Calls Tryz.prog 51 #[.pointer (some ⟨R.b, 0, none⟩), .int .u32 a] w fun e w' => e = .returned (.slice (some ⟨R.A, R.pos a, none⟩) (64 - a % 64) (64 - a % 64)) ∧ w = w' := by
  have c0 := H.c0
  have cS := H.cS (k := a / 64) (by omega)
  have n1 := H.n1
  have n2 := H.n2
  have n3 := H.cap2
  have e1 : (a : Int).tdiv 64 = (a / 64 : Nat) := by rw [Int.tdiv_eq_ediv_of_nonneg (by omega)]; omega
  have e2 : (a : Int).tmod 64 = (a % 64 : Nat) := by rw [Int.tmod_eq_emod_of_nonneg (by omega)]; omega
  go_enter Tryz.func51, Tryz.ntmps51
  go_wp2
  go_ret
  exact ⟨rfl, rfl⟩

theorem RamAt.pos_add (R : RamAt) (a j : Nat) (h : a % 64 + j < 64) : R.pos (a + j) = R.pos a + j := by
  unfold RamAt.pos
  rw [show (a + j) / 64 = a / 64 from by omega, show (a + j) % 64 = a % 64 + j from by omega]; omega

set_option maxHeartbeats 800000 in
theorem byte_ram {R : RamAt} {M : List Int} (w : World) (H : IsRam w R M) (a : Nat) (ha2 : a < 4294967296) :
    Calls Tryz.prog 14 #[.pointer (some ⟨R.b, 0, none⟩), .int .u32 a] w fun e w' => e = .returned (.tuple (if a < 64 * R.n then #[.int .u8 (R.get M a), .bool true] else #[.int .u8 0, .bool false])) ∧ w = w' := by
  have n1 := H.n1
  have n2 := H.n2
  by_cases h : a < 64 * R.n
  · have cA := H.cA h
    rw [if_pos h]
    have hw : (decide ((a : Int) % 1 = 0) && decide ((1 : Int) ≤ 64 * R.n) && decide ((a : Int) ≤ 64 * R.n - 1)) = true := by simp; omega
    go_enter Tryz.func14, Tryz.ntmps14
    go_wp2_with (first | (go_at_call 50; refine (within_ram _ H a 1 1 (by omega) (by omega) (by omega) (by omega) (by omega) (by omega)).mono ?_; rw [hw]; rintro _ w1 ⟨rfl, rfl⟩) | (go_at_call 51; refine (at_ram _ H a h).mono ?_; rintro _ w1 ⟨rfl, rfl⟩))
    go_ret2
    exact ⟨rfl, rfl⟩
  · rw [if_neg h]
    have hw : (decide ((a : Int) % 1 = 0) && decide ((1 : Int) ≤ 64 * R.n) && decide ((a : Int) ≤ 64 * R.n - 1)) = false := by simp; omega
    go_enter Tryz.func14, Tryz.ntmps14
    go_wp2_with (first | (go_at_call 50; refine (within_ram _ H a 1 1 (by omega) (by omega) (by omega) (by omega) (by omega) (by omega)).mono ?_; rw [hw]; rintro _ w1 ⟨rfl, rfl⟩))
    go_ret2
    exact ⟨rfl, rfl⟩

theorem or_add32 (x y : Int) (k : Nat) (hk : k ≤ 24) (x0 : 0 ≤ x) (x1 : x < (2 ^ k : Nat)) (y0 : 0 ≤ y) (y1 : y * (2 ^ k : Nat) < 4294967296) : bits .or .u32 x (y * (2 ^ k : Nat)) = x + y * (2 ^ k : Nat) := by
  obtain ⟨a, rfl⟩ := Int.eq_ofNat_of_zero_le x0
  obtain ⟨b, rfl⟩ := Int.eq_ofNat_of_zero_le y0
  have h1 : a < 2 ^ k := Int.ofNat_lt.1 x1
  have h2 : b * 2 ^ k < 4294967296 := by
    rw [← Int.natCast_mul] at y1
    omega
  have h3 : 2 ^ k ≤ 2 ^ 24 := Nat.pow_le_pow_right (by omega) hk
  have := u32_or_nat a (b * 2 ^ k) (by omega) h2
  rw [show ((b : Int) * ((2 ^ k : Nat) : Int)) = ((b * 2 ^ k : Nat) : Int) from (Int.natCast_mul _ _).symm, this]
  have h4 := Nat.two_pow_add_eq_or_of_lt h1 b
  rw [Nat.or_comm, Nat.mul_comm b, ← h4]
  rw [Int.natCast_add]; omega
/-- The word at a place. -/
def RamAt.word (R : RamAt) (M : List Int) (a : Nat) : Int := R.get M a + 256 * R.get M (a + 1) + 65536 * R.get M (a + 2) + 16777216 * R.get M (a + 3)
end Go.Proofs.YtomphgpplbekiaaGreat
