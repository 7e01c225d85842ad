/- Package scan: what fetch reckons, in plain words. -/
import Derived.Test.YtjkjnomhggmplaaGreatScanB
namespace Go.Proofs.YtjkjnomhggmplaaGreat
open Go.RowKit

/-- So many bytes more: the place of the fault, if there is one; the bytes; what was gone through. -/
def moreL (R : RamAt) (M : List Int) (root ps pc : Nat) : Nat → List Int → Fd → Option Nat × List Int × Fd
  | 0, bs, f => (none, bs, f)
  | k + 1, bs, f => match byteL R M root ps ((pc + bs.length) % 4294967296) f with
    | (none, f') => (some ((pc + bs.length) % 4294967296), bs, f')
    | (some x, f') => moreL R M root ps pc k (bs ++ [x]) f'
structure Fetched where
  c : Int
  a : Nat
  i : In
  sz : Int
  f : Fd
def fd0 : Fd := ⟨[], [], []⟩
def headX (bs : List Int) : Int := bs.getD 0 0
def decR (pc : Nat) (bs : List Int) (f : Fd) : Fetched :=
  if (decL (fun k => bs.getD k 0) bs.length false).2.2 ≠ 0 then ⟨1, pc, in0, 0, f⟩ else ⟨0, 0, (decL (fun k => bs.getD k 0) bs.length false).1, (decL (fun k => bs.getD k 0) bs.length false).2.1, f⟩
def restL (R : RamAt) (M : List Int) (root ps pc : Nat) (bs : List Int) (f : Fd) : Fetched :=
  match moreL R M root ps pc ((formL (headX bs) false).n.toNat - bs.length) bs f with
  | (some va, _, f') => ⟨5, va, in0, 0, f'⟩
  | (none, bs', f') => decR pc bs' f'
def fetchL (R : RamAt) (M : List Int) (root ps pc : Nat) : Fetched :=
  match byteL R M root ps (pc % 4294967296) fd0 with
  | (none, f) => ⟨5, pc % 4294967296, in0, 0, f⟩
  | (some x, f) => restL R M root ps pc [x] f
theorem byteL_ok {R : RamAt} {M : List Int} {root ps va : Nat} {f : Fd} {n : Nat} (h : f.Ok n) : (byteL R M root ps va f).2.Ok (n + 1) := by
  unfold byteL
  split
  · exact ⟨h.r1, h.r2, h.r3, by have := h.l1; simp only; omega, by have := h.l2; simp only; omega, by have := h.l3; simp only; omega⟩
  · refine ⟨rising_putL h.r1 _, ?_, rising_putL h.r3 _, ?_, ?_, ?_⟩
    · simp only
      split
      · exact h.r2
      · exact rising_putL (rising_putL h.r2 _) _
    · have := length_putL_le f.fr ((‹Nat› : Int) / 64)
      have := h.l1
      simp only at *
      omega
    · simp only
      have := h.l2
      split
      · omega
      · refine Nat.le_trans (length_putL_le _ _) (Nat.le_trans (Nat.add_le_add_right (length_putL_le _ _) 1) (by omega))
    · have := length_putL_le f.pg ((va : Int) / 64)
      have := h.l3
      simp only at *
      omega
theorem byteL_bd {w : World} {R : RamAt} {M : List Int} (H : IsRam w R M) {root ps va : Nat} {f : Fd} {x : Int} (h : (byteL R M root ps va f).1 = some x) : 0 ≤ x ∧ x < 256 := by
  unfold byteL at h
  split at h
  · cases h
  · rename_i a ha
    simp only [Option.some.injEq] at h
    subst h
    exact H.byte (toL_lt ha)
theorem fd0_ok : fd0.Ok 0 := ⟨List.Pairwise.nil, List.Pairwise.nil, List.Pairwise.nil, Nat.le_refl _, Nat.le_refl _, Nat.le_refl _⟩
theorem restL_step {R : RamAt} {M : List Int} {root ps pc : Nat} {bs : List Int} {f : Fd} (h : bs.length < (formL (headX bs) false).n.toNat) (h1 : 1 ≤ bs.length) :
    restL R M root ps pc bs f = match byteL R M root ps ((pc + bs.length) % 4294967296) f with
      | (none, f') => ⟨5, (pc + bs.length) % 4294967296, in0, 0, f'⟩
      | (some x, f') => restL R M root ps pc (bs ++ [x]) f' := by
  unfold restL
  obtain ⟨k, hk⟩ : ∃ k, (formL (headX bs) false).n.toNat - bs.length = k + 1 := ⟨(formL (headX bs) false).n.toNat - bs.length - 1, by omega⟩
  rw [hk]
  simp only [moreL]
  cases hb : byteL R M root ps ((pc + bs.length) % 4294967296) f with
  | mk a f' =>
    cases a with
    | none => rfl
    | some x =>
      have hh : headX (bs ++ [x]) = headX bs := by
        unfold headX
        cases bs with
        | nil => simp at h1
        | cons y r => rfl
      simp only [hh]
      rw [show (formL (headX bs) false).n.toNat - (bs ++ [x]).length = k from by simp; omega]
theorem restL_done {R : RamAt} {M : List Int} {root ps pc : Nat} {bs : List Int} {f : Fd} (h : (formL (headX bs) false).n.toNat ≤ bs.length) : restL R M root ps pc bs f = decR pc bs f := by
  unfold restL
  rw [show (formL (headX bs) false).n.toNat - bs.length = 0 from by omega]
  rfl
end Go.Proofs.YtjkjnomhggmplaaGreat
