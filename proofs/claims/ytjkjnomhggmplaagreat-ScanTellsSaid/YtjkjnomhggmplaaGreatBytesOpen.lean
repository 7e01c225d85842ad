/- An argument of bytes, opened. -/
import Derived.Test.YtjkjnomhggmplaaGreatIsaD
import Derived.Test.YtjkjnomhggmplaaGreatRead
namespace Go.Proofs.YtjkjnomhggmplaaGreat
open Go.RowKit

theorem bytes_open {w : World} {a : Option Addr} {l c : Nat} (h : RdV Tryz.prog w 22 [.slice a l c]) : ∃ X, BySl w a l X ∧ l ≤ c ∧ c ≤ maxLen := by
  rcases h.slice Tryz.underlying22 with h | ⟨a', l', c', he, h1, h2, h3⟩
  · simp at h
    obtain ⟨-, rfl, rfl⟩ := h
    exact ⟨fun _ => 0, .inl rfl, Nat.le_refl _, Nat.zero_le _⟩
  · simp at he
    obtain ⟨rfl, rfl, rfl⟩ := he
    rw [show Tryz.prog.cellsOf 5 = 1 from by kernel_rfl] at h3
    by_cases hl : l = 0
    · exact ⟨fun _ => 0, .inl hl, h1, h2⟩
    have hx : ∀ i, ∃ x : Int, i < l → a'.spot = none ∧ 0 ≤ x ∧ x < 256 ∧ w.cell? ⟨a'.block, a'.off + i, none⟩ = some (.int .u8 x) := by
      intro i
      by_cases hi : i < l
      · obtain ⟨es, e1, e2, e3⟩ := h3 i hi
        obtain ⟨x, rfl, p0, p1⟩ := RdV.int (k := .u8) e3 Tryz.underlying5
        simp [IntKind.min, IntKind.max, IntKind.bits, IntKind.signed] at p0 p1
        refine ⟨x, fun _ => ⟨(e2 0 (by omega)).1, p0, by omega, ?_⟩⟩
        simpa using (e2 0 (by omega)).2
      · exact ⟨0, fun h => absurd h hi⟩
    obtain ⟨X, hX⟩ := Classical.skolem.1 hx
    refine ⟨X, .inr ⟨a'.block, a'.off, ?_, ?_, fun i hi => (hX i hi).2⟩, h1, h2⟩
    · have := (hX 0 (by omega)).1
      obtain ⟨b, o, s⟩ := a'
      simp only at this; subst this; rfl
    · have h := (hX 0 (by omega)).2.2.2
      rcases Nat.lt_or_ge a'.block w.heap.size with h1 | h1
      · exact h1
      · simp [World.cell?, Array.getElem?_eq_none h1] at h
end Go.Proofs.YtjkjnomhggmplaaGreat
