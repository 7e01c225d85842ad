/- Package ram: a memory, as blocks; Size, within, at, Byte, Word. All frames of a memory lie in ONE block of bytes (a window's too). -/
import Derived.Test.YtjkjnomhggmplaaGreatRows
import Derived.Test.YtjkjnomhggmplaaGreatHeap
import Derived.WalkKit
import Derived.WalkSpells
import Derived.WalkLawsBesides
import Derived.Deep.QuietTactic
import Derived.BigQuiet
import Derived.Laws.CopyOwn
import Derived.Laws.BitsAllLaws
namespace Go.Proofs.YtjkjnomhggmplaaGreat
open Go.RowKit

/-- Where a memory lies: its own block, that of its frames (so many, and so many may be), that of the bytes, and where each frame is there. -/
structure RamAt where
  b : Nat
  S : Nat
  n : Nat
  cap : Nat
  A : Nat
  F : Nat → Nat
def RamAt.pos (R : RamAt) (i : Nat) : Nat := 64 * R.F (i / 64) + i % 64
def RamAt.get (R : RamAt) (M : List Int) (i : Nat) : Int := M.getD (R.pos i) 0
structure IsRam (w : World) (R : RamAt) (M : List Int) : Prop where
  hb : w.heap[R.b]? = some (.cells #[.slice (some ⟨R.S, 0, none⟩) R.n R.cap] 106 (0, 0))
  hS : ∃ cs : Array Value, w.heap[R.S]? = some (.cells cs 22 (0, 0)) ∧ ∀ k, k < R.n → cs[k]? = some (.slice (some ⟨R.A, 64 * R.F k, none⟩) 64 64)
  hA : w.heap[R.A]? = some (.cells (M.map (Value.int .u8)).toArray 5 (0, 0))
  fit : ∀ k, k < R.n → 64 * R.F k + 64 ≤ M.length
  inj : ∀ k l, k < R.n → l < R.n → R.F k = R.F l → k = l
  n1 : 1 ≤ R.n
  n2 : R.n ≤ 512
  cap2 : R.n ≤ R.cap
  bytes : ∀ x ∈ M, 0 ≤ x ∧ x < 256
  bS : R.b ≠ R.S
  bA : R.b ≠ R.A
  SA : R.S ≠ R.A
theorem IsRam.keeps {F : Nat → Prop} {w w' : World} {R : RamAt} {M : List Int} (h : IsRam w R M) (k : Keeps F w w') (hb : ¬ F R.b) (hS : ¬ F R.S) (hA : ¬ F R.A) : IsRam w' R M :=
  ⟨k.get h.hb hb, let ⟨cs, h1, h2⟩ := h.hS; ⟨cs, k.get h1 hS, h2⟩, k.get h.hA hA, h.fit, h.inj, h.n1, h.n2, h.cap2, h.bytes, h.bS, h.bA, h.SA⟩
theorem IsRam.same {w w' : World} {R : RamAt} {M : List Int} (h : IsRam w R M) (k : Same w w') : IsRam w' R M := h.keeps k id id id
section
variable {w : World} {R : RamAt} {M : List Int} (H : IsRam w R M)
include H
theorem IsRam.c0 : w.cell? ⟨R.b, 0, none⟩ = some (.slice (some ⟨R.S, 0, none⟩) R.n R.cap) := by rw [cell_of H.hb]; rfl
theorem IsRam.cS {k : Nat} (hk : k < R.n) : w.cell? ⟨R.S, k, none⟩ = some (.slice (some ⟨R.A, 64 * R.F k, none⟩) 64 64) := by
  obtain ⟨cs, h1, h2⟩ := H.hS
  rw [cell_of h1]; exact h2 k hk
theorem IsRam.lt {i : Nat} (hi : i < 64 * R.n) : R.pos i < M.length := by
  have := H.fit (i / 64) (by omega)
  unfold RamAt.pos; omega
theorem IsRam.cA {i : Nat} (hi : i < 64 * R.n) : w.cell? ⟨R.A, R.pos i, none⟩ = some (.int .u8 (R.get M i)) := by
  have := H.lt hi
  rw [cell_of H.hA]
  simp [RamAt.get, this]
theorem IsRam.byte {i : Nat} (hi : i < 64 * R.n) : 0 ≤ R.get M i ∧ R.get M i < 256 := by
  have := H.lt hi
  refine H.bytes _ ?_
  simp [RamAt.get, this]
end

set_option maxHeartbeats 400000 in
theorem size_nil (w : World) : Calls Tryz.prog 29 #[.pointer none] w fun e w' => e = .returned (.int .u32 0) ∧ w = w' := by
  go_enter Tryz.func29, Tryz.ntmps29
  go_wp2
  go_ret
  exact ⟨rfl, rfl⟩
set_option maxHeartbeats 400000 in
theorem size_ram {R : RamAt} {M : List Int} (w : World) (H : IsRam w R M) : Calls Tryz.prog 29 #[.pointer (some ⟨R.b, 0, none⟩)] w fun e w' => e = .returned (.int .u32 (64 * R.n)) ∧ w = w' := by
  have c0 := H.c0
  have n1 := H.n1
  have n2 := H.n2
  have e1 := wrapI ((R.n : Int) * 64) (by omega) (by omega)
  have e2 : IntKind.u32.wrap ((R.n : Int) * 64) = 64 * R.n := by simp [IntKind.wrap, IntKind.bits, IntKind.signed]; omega
  go_enter Tryz.func29, Tryz.ntmps29
  go_wp2
  go_ret
  exact ⟨rfl, rfl⟩

set_option maxHeartbeats 800000 in
theorem within_ram {R : RamAt} {M : List Int} (w : World) (H : IsRam w R M) (a n al : Int) (ha : 0 ≤ a) (ha2 : a < 4294967296) (hn : 0 ≤ n) (hn2 : n ≤ 9223372036854775807) (hal : 0 < al) (hal2 : al < 1000) :
    Calls Tryz.prog 41 #[.pointer (some ⟨R.b, 0, none⟩), .int .u32 a, .int .i64 n, .int .i64 al] w fun e w' => e = .returned (.bool (decide (a % al = 0) && decide (n ≤ 64 * R.n) && decide (a ≤ 64 * R.n - n))) ∧ w = w' := by
  have n1 := H.n1
  have n2 := H.n2
  have h0 : (al == 0) = false := by simp; omega
  have m1 := Int.emod_nonneg a (show al ≠ 0 by omega)
  have m2 := Int.emod_lt_of_pos a hal
  have e1 := wrapI a (by omega) (by omega)
  have e2 : a.tmod al = a % al := Int.tmod_eq_emod_of_nonneg ha
  have e3 := wrapI (a % al) (by omega) (by omega)
  have e4 := wrapI (64 * (R.n : Int)) (by omega) (by omega)
  go_enter Tryz.func41, Tryz.ntmps41
  go_wp2_with (go_at_call 29; refine (size_ram _ H).mono ?_; rintro _ w1 ⟨rfl, rfl⟩)
  all_goals (go_ret; refine ⟨?_, rfl⟩)
  all_goals (have hx1 : ∀ x y : Int, ¬ x ≤ y ↔ y < x := fun x y => by omega)
  all_goals (simp [*])
  all_goals omega

set_option maxHeartbeats 800000 in
theorem at_ram {R : RamAt} {M : List Int} (w : World) (H : IsRam w R M) (a : Nat) (ha : a < 64 * R.n) :
    Calls Tryz.prog 42 #[.pointer (some ⟨R.b, 0, none⟩), .int .u32 a] w fun e w' => e = .returned (.slice (some ⟨R.A, R.pos a, none⟩) (64 - a % 64) (64 - a % 64)) ∧ w = w' := by
  have c0 := H.c0
  have cS := H.cS (k := a / 64) (by omega)
  have n1 := H.n1
  have n2 := H.n2
  have n3 := H.cap2
  have e1 : (a : Int).tdiv 64 = (a / 64 : Nat) := by rw [Int.tdiv_eq_ediv_of_nonneg (by omega)]; omega
  have e2 : (a : Int).tmod 64 = (a % 64 : Nat) := by rw [Int.tmod_eq_emod_of_nonneg (by omega)]; omega
  go_enter Tryz.func42, Tryz.ntmps42
  go_wp2
  go_ret
  exact ⟨rfl, rfl⟩

theorem RamAt.pos_add (R : RamAt) (a j : Nat) (h : a % 64 + j < 64) : R.pos (a + j) = R.pos a + j := by
  unfold RamAt.pos
  rw [show (a + j) / 64 = a / 64 from by omega, show (a + j) % 64 = a % 64 + j from by omega]; omega

set_option maxHeartbeats 800000 in
theorem byte_ram {R : RamAt} {M : List Int} (w : World) (H : IsRam w R M) (a : Nat) (ha2 : a < 4294967296) :
    Calls Tryz.prog 64 #[.pointer (some ⟨R.b, 0, none⟩), .int .u32 a] w fun e w' => e = .returned (.tuple (if a < 64 * R.n then #[.int .u8 (R.get M a), .bool true] else #[.int .u8 0, .bool false])) ∧ w = w' := by
  have n1 := H.n1
  have n2 := H.n2
  by_cases h : a < 64 * R.n
  · have cA := H.cA h
    rw [if_pos h]
    have hw : (decide ((a : Int) % 1 = 0) && decide ((1 : Int) ≤ 64 * R.n) && decide ((a : Int) ≤ 64 * R.n - 1)) = true := by simp; omega
    go_enter Tryz.func64, Tryz.ntmps64
    go_wp2_with (first | (go_at_call 41; refine (within_ram _ H a 1 1 (by omega) (by omega) (by omega) (by omega) (by omega) (by omega)).mono ?_; rw [hw]; rintro _ w1 ⟨rfl, rfl⟩) | (go_at_call 42; refine (at_ram _ H a h).mono ?_; rintro _ w1 ⟨rfl, rfl⟩))
    go_ret2
    exact ⟨rfl, rfl⟩
  · rw [if_neg h]
    have hw : (decide ((a : Int) % 1 = 0) && decide ((1 : Int) ≤ 64 * R.n) && decide ((a : Int) ≤ 64 * R.n - 1)) = false := by simp; omega
    go_enter Tryz.func64, Tryz.ntmps64
    go_wp2_with (first | (go_at_call 41; refine (within_ram _ H a 1 1 (by omega) (by omega) (by omega) (by omega) (by omega) (by omega)).mono ?_; rw [hw]; rintro _ w1 ⟨rfl, rfl⟩))
    go_ret2
    exact ⟨rfl, rfl⟩

theorem or_add32 (x y : Int) (k : Nat) (hk : k ≤ 24) (x0 : 0 ≤ x) (x1 : x < (2 ^ k : Nat)) (y0 : 0 ≤ y) (y1 : y * (2 ^ k : Nat) < 4294967296) : bits .or .u32 x (y * (2 ^ k : Nat)) = x + y * (2 ^ k : Nat) := by
  obtain ⟨a, rfl⟩ := Int.eq_ofNat_of_zero_le x0
  obtain ⟨b, rfl⟩ := Int.eq_ofNat_of_zero_le y0
  have h1 : a < 2 ^ k := Int.ofNat_lt.1 x1
  have h2 : b * 2 ^ k < 4294967296 := by
    rw [← Int.natCast_mul] at y1
    omega
  have h3 : 2 ^ k ≤ 2 ^ 24 := Nat.pow_le_pow_right (by omega) hk
  have := u32_or_nat a (b * 2 ^ k) (by omega) h2
  rw [show ((b : Int) * ((2 ^ k : Nat) : Int)) = ((b * 2 ^ k : Nat) : Int) from (Int.natCast_mul _ _).symm, this]
  have h4 := Nat.two_pow_add_eq_or_of_lt h1 b
  rw [Nat.or_comm, Nat.mul_comm b, ← h4]
  rw [Int.natCast_add]; omega
/-- The word at a place. -/
def RamAt.word (R : RamAt) (M : List Int) (a : Nat) : Int := R.get M a + 256 * R.get M (a + 1) + 65536 * R.get M (a + 2) + 16777216 * R.get M (a + 3)
set_option maxHeartbeats 1600000 in
theorem word_ram {R : RamAt} {M : List Int} (w : World) (H : IsRam w R M) (a : Nat) (ha2 : a < 4294967296) :
    Calls Tryz.prog 103 #[.pointer (some ⟨R.b, 0, none⟩), .int .u32 a] w fun e w' => e = .returned (.tuple (if a % 4 = 0 ∧ a < 64 * R.n then #[.int .u32 (R.word M a), .bool true] else #[.int .u32 0, .bool false])) ∧ Same w w' := by
  have n1 := H.n1
  have n2 := H.n2
  by_cases h : a % 4 = 0 ∧ a < 64 * R.n
  · have hp1 := R.pos_add a 1 (by omega)
    have hp2 := R.pos_add a 2 (by omega)
    have hp3 := R.pos_add a 3 (by omega)
    have c0 := H.cA h.2
    have c1 := H.cA (show a + 1 < 64 * R.n by omega)
    have c2 := H.cA (show a + 2 < 64 * R.n by omega)
    have c3 := H.cA (show a + 3 < 64 * R.n by omega)
    rw [hp1] at c1
    rw [hp2] at c2
    rw [hp3] at c3
    have b0 := H.byte h.2
    have b1 := H.byte (show a + 1 < 64 * R.n by omega)
    have b2 := H.byte (show a + 2 < 64 * R.n by omega)
    have b3 := H.byte (show a + 3 < 64 * R.n by omega)
    rw [if_pos h]
    unfold RamAt.word
    generalize R.get M a = x0 at *
    generalize R.get M (a + 1) = x1 at *
    generalize R.get M (a + 2) = x2 at *
    generalize R.get M (a + 3) = x3 at *
    have hw : (decide ((a : Int) % 4 = 0) && decide ((4 : Int) ≤ 64 * R.n) && decide ((a : Int) ≤ 64 * R.n - 4)) = true := by simp; omega
    go_enter Tryz.func103, Tryz.ntmps103
    go_wp2_with (first | (go_at_call 41; refine (within_ram _ H a 4 4 (by omega) (by omega) (by omega) (by omega) (by omega) (by omega)).mono ?_; rw [hw]; rintro _ w1 ⟨rfl, rfl⟩) | (go_at_call 42; refine (at_ram _ H a h.2).mono ?_; rintro _ w1 ⟨rfl, rfl⟩))
    go_quiet (fail)
    go_wp2
    go_ret2
    refine ⟨?_, (Keeps.refl _ _).drewN _⟩
    have o1 := or_add32 x0 x1 8 (by omega) b0.1 (by simpa using b0.2) (by omega) (by simp; omega)
    have o2 := or_add32 (x0 + 256 * x1) x2 16 (by omega) (by omega) (by simp; omega) (by omega) (by simp; omega)
    have o3 := or_add32 (x0 + 256 * x1 + 65536 * x2) x3 24 (by omega) (by omega) (by simp; omega) (by omega) (by simp; omega)
    simp at o1 o2 o3
    rw [o1, show x0 + x1 * 256 = x0 + 256 * x1 from by omega, o2, show x0 + 256 * x1 + x2 * 65536 = x0 + 256 * x1 + 65536 * x2 from by omega, o3, show x3 * 16777216 = 16777216 * x3 from by omega]
    rfl
  · rw [if_neg h]
    have hw : (decide ((a : Int) % 4 = 0) && decide ((4 : Int) ≤ 64 * R.n) && decide ((a : Int) ≤ 64 * R.n - 4)) = false := by simp; omega
    go_enter Tryz.func103, Tryz.ntmps103
    go_wp2_with (first | (go_at_call 41; refine (within_ram _ H a 4 4 (by omega) (by omega) (by omega) (by omega) (by omega) (by omega)).mono ?_; rw [hw]; rintro _ w1 ⟨rfl, rfl⟩))
    go_ret2
    exact ⟨rfl, Keeps.refl _ _⟩
end Go.Proofs.YtjkjnomhggmplaaGreat
