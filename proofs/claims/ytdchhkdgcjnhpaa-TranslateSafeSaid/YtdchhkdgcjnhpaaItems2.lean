/- Plain: what the rows of a block's code say of exits; which instructions stand in it. -/
import Derived.Test.YtdchhkdgcjnhpaaItems
namespace Go.Proofs.Ytdchhkdgcjnhpaa
open Go.RowKit

def cnt (l : List It) : Nat := (l.filter fun x => decide (0 ≤ x.ex)).length
theorem cnt_append (l m : List It) : cnt (l ++ m) = cnt l + cnt m := by simp [cnt]
def PC (first : Int) (l : List It) : Prop := ∀ k y, l[k]? = some y → 0 ≤ y.ex → ∃ j x, k = j + 1 ∧ l[j]? = some x ∧ x.i.op = 112 ∧ x.i.imm = x.dn ∧ x.pc = y.pc ∧ y.ex = first + cnt (l.take k)
theorem get_lt {α : Type} {l : List α} {k : Nat} {x : α} (h : l[k]? = some x) : k < l.length := by
  rcases Nat.lt_or_ge k l.length with h1 | h1
  · exact h1
  · simp [List.getElem?_eq_none h1] at h
theorem PC.with_ {first : Int} {l : List It} (h : PC first l) (i : In) (pc dn : Int) : PC first (withI l i pc dn) := by
  intro k y hk hy
  have hlt := get_lt hk
  simp only [withI, List.length_append, List.length_cons, List.length_nil] at hlt
  unfold withI at hk ⊢
  rcases Nat.lt_or_ge k l.length with h1 | h1
  · rw [List.getElem?_append_left h1] at hk
    obtain ⟨j, x, rfl, hj, r1, r2, r3, r4⟩ := h k y hk hy
    exact ⟨j, x, rfl, by rw [List.getElem?_append_left (by omega)]; exact hj, r1, r2, r3, by rw [List.take_append_of_le_length (by omega)]; exact r4⟩
  · obtain rfl : k = l.length := by omega
    simp at hk
    subst hk
    simp at hy
theorem PC.out_ {first : Int} {l : List It} (h : PC first l) (dn to nx : Int) (hn : nx = first + cnt l) : PC first (outI l dn to nx) := by
  intro k y hk hy
  have hlt := get_lt hk
  simp only [outI, List.length_append, List.length_cons, List.length_nil] at hlt
  unfold outI at hk ⊢
  rcases Nat.lt_or_ge k l.length with h1 | h1
  · rw [List.getElem?_append_left h1] at hk
    obtain ⟨j, x, rfl, hj, r1, r2, r3, r4⟩ := h k y hk hy
    exact ⟨j, x, rfl, by rw [List.getElem?_append_left (by omega)]; exact hj, r1, r2, r3, by rw [List.take_append_of_le_length (by omega)]; exact r4⟩
  · rw [List.getElem?_append_right h1] at hk
    rcases (show k = l.length ∨ k = l.length + 1 by omega) with rfl | rfl
    · simp at hk
      subst hk
      simp at hy
    · simp at hk
      subst hk
      refine ⟨l.length, ⟨⟨112, 0, 0, dn⟩, to, dn, -1⟩, rfl, by simp, rfl, rfl, rfl, ?_⟩
      rw [List.take_append, List.take_of_length_le (by omega), cnt_append, show l.length + 1 - l.length = 1 by omega]
      simp [cnt] at hn ⊢
      exact hn
theorem cnt_with (l : List It) (i : In) (pc dn : Int) : cnt (withI l i pc dn) = cnt l := by simp [withI, cnt]
theorem cnt_out (l : List It) (dn to nx : Int) (h : 0 ≤ nx) : cnt (outI l dn to nx) = cnt l + 1 := by simp [outI, cnt, h]
theorem body_cnt (b : Bk) (first : Int) : ∀ k, cnt (bodyI b k) = 0 ∧ PC first (bodyI b k)
  | 0 => ⟨rfl, fun k y h => by simp [bodyI] at h⟩
  | k + 1 => by
    obtain ⟨h1, h2⟩ := body_cnt b first k
    exact ⟨by simp only [bodyI]; rw [cnt_with, h1], h2.with_ _ _ _⟩
theorem trI_counts (b : Bk) (first : Int) (x0 : 0 ≤ first) : PC first (trI b first) ∧ cnt (trI b first) = if b.fin = 3 then 2 else 1 := by
  unfold trI
  obtain ⟨h1, h2⟩ := body_cnt b first (if b.fin = 1 then b.n else b.n - 1)
  generalize bodyI b (if b.fin = 1 then b.n else b.n - 1) = l at *
  unfold endI
  by_cases f1 : b.fin = 1
  · rw [if_pos f1, if_neg (show ¬ b.fin = 3 by omega)]
    exact ⟨h2.out_ _ _ _ (by rw [h1]; simp), by rw [cnt_out _ _ _ _ x0, h1]⟩
  rw [if_neg f1]
  by_cases f2 : b.fin = 2
  · rw [if_pos f2, if_neg (show ¬ b.fin = 3 by omega)]
    by_cases o : (lastX b).op = 72
    · rw [if_pos o]
      exact ⟨(h2.with_ _ _ _).out_ _ _ _ (by rw [cnt_with, h1]; simp), by rw [cnt_out _ _ _ _ x0, cnt_with, h1]⟩
    · rw [if_neg o]
      exact ⟨h2.out_ _ _ _ (by rw [h1]; simp), by rw [cnt_out _ _ _ _ x0, h1]⟩
  rw [if_neg f2]
  by_cases f3 : b.fin = 3
  · rw [if_pos f3, if_pos f3]
    exact ⟨((h2.with_ _ _ _).out_ _ _ _ (by rw [cnt_with, h1]; simp)).out_ _ _ _ (by rw [cnt_out _ _ _ _ x0, cnt_with, h1]; simp), by rw [cnt_out _ _ _ _ (by omega), cnt_out _ _ _ _ x0, cnt_with, h1]⟩
  · rw [if_neg f3, if_neg f3]
    exact ⟨h2.out_ _ _ _ (by rw [h1]; simp), by rw [cnt_out _ _ _ _ x0, h1]⟩
theorem cnt_take {l : List It} {k : Nat} {y : It} (h : l[k]? = some y) : cnt (l.take (k + 1)) = cnt (l.take k) + if 0 ≤ y.ex then 1 else 0 := by
  have hk := get_lt h
  have he : l[k] = y := by rw [List.getElem?_eq_getElem hk] at h; exact Option.some.inj h
  rw [List.take_succ_eq_append_getElem hk, cnt_append, he]
  by_cases hy : 0 ≤ y.ex <;> simp [cnt, hy]
/-- Which instructions stand in a block's code. -/
def Safe (b : Bk) (x : It) : Prop := ¬ (1 ≤ x.i.op ∧ x.i.op ≤ 3) ∧ ¬ (72 ≤ x.i.op ∧ x.i.op < 112) ∧ x.i.op ≠ 64 ∧ (65 ≤ x.i.op ∧ x.i.op ≤ 71 → b.fin = 3 ∧ x.i.imm = 5)
theorem plain_all : ∀ n : Fin 256, ending3 (n.val : Int) = false → formL (n.val : Int) false ≠ fm0 → (n.val = 0 ∨ (16 ≤ n.val ∧ n.val ≤ 58)) := by decide +kernel
theorem plain_op {i : In} (hi : i.Ok) (hm : mayB i false = true) (he : ending3 i.op = false) : i.op = 0 ∨ (16 ≤ i.op ∧ i.op ≤ 58) := by
  obtain ⟨n, hn⟩ := Int.eq_ofNat_of_zero_le hi.o0
  have o1 := hi.o1
  have hne : formL i.op false ≠ fm0 := by
    intro e
    rw [mayB, e] at hm
    simp [fm0] at hm
  rw [hn] at he hne o1
  have := plain_all ⟨n, by omega⟩ he hne
  simp only at this
  omega
theorem safe_with {b : Bk} {l : List It} (hl : ∀ x ∈ l, Safe b x) (i : In) (pc dn : Int) (h : Safe b ⟨i, pc, dn, -1⟩) : ∀ x ∈ withI l i pc dn, Safe b x := by
  intro x hx
  simp only [withI, List.mem_append, List.mem_singleton] at hx
  rcases hx with hx | rfl
  · exact hl x hx
  · exact h
theorem safe_out {b : Bk} {l : List It} (hl : ∀ x ∈ l, Safe b x) (dn to nx : Int) : ∀ x ∈ outI l dn to nx, Safe b x := by
  intro x hx
  simp only [outI, List.mem_append, List.mem_cons, List.not_mem_nil, or_false] at hx
  rcases hx with hx | rfl | rfl
  · exact hl x hx
  · refine ⟨?_, ?_, ?_, ?_⟩ <;> simp
  · refine ⟨?_, ?_, ?_, ?_⟩ <;> simp
theorem safe_body {b : Bk} (hx : ∀ k, k < b.n → (b.X k).Ok) (hm : ∀ k, k < b.n → mayB (b.X k) false = true) : ∀ k, k ≤ b.n → (∀ j, j < k → ending3 (b.X j).op = false) → ∀ x ∈ bodyI b k, Safe b x
  | 0, _, _ => by intro x h; simp [bodyI] at h
  | k + 1, hk, he => by
    refine safe_with (safe_body hx hm k (by omega) (fun j hj => he j (by omega))) _ _ _ ?_
    have := plain_op (hx k (by omega)) (hm k (by omega)) (he k (by omega))
    refine ⟨?_, ?_, ?_, ?_⟩ <;> simp only <;> omega
theorem trI_safe {b : Bk} (hg : Good b) (hx : ∀ k, k < b.n → (b.X k).Ok) (first : Int) : ∀ x ∈ trI b first, Safe b x := by
  have n1 := hg.n1
  have hend := (end_way hg)
  have hbd : ∀ x ∈ bodyI b (if b.fin = 1 then b.n else b.n - 1), Safe b x := by
    refine safe_body hx hg.may _ (by split <;> omega) (fun j hj => ?_)
    by_cases h1 : j + 1 < b.n
    · exact hg.go_on j h1
    · have hf : b.fin = 1 := by
        by_cases hf : b.fin = 1
        · exact hf
        · rw [if_neg hf] at hj; omega
      have hj2 : j = b.n - 1 := by rw [if_pos hf] at hj; omega
      rcases hend.1 with ⟨-, e⟩ | ⟨h, -⟩ | ⟨h, -⟩ | ⟨h, -, -⟩ | ⟨h⟩
      · rw [hj2]; exact e
      all_goals omega
  unfold trI
  generalize bodyI b (if b.fin = 1 then b.n else b.n - 1) = l at *
  unfold endI
  by_cases f1 : b.fin = 1
  · rw [if_pos f1]; exact safe_out hbd _ _ _
  rw [if_neg f1]
  by_cases f2 : b.fin = 2
  · rw [if_pos f2]
    refine safe_out ?_ _ _ _
    split
    · refine safe_with hbd _ _ _ ?_
      refine ⟨?_, ?_, ?_, ?_⟩ <;> simp [ldiI]
    · exact hbd
  rw [if_neg f2]
  by_cases f3 : b.fin = 3
  · rw [if_pos f3]
    refine safe_out (safe_out (safe_with hbd _ _ _ ?_) _ _ _) _ _ _
    rcases hend.1 with ⟨h, -⟩ | ⟨h, -⟩ | ⟨h, -⟩ | ⟨-, h0, h1⟩ | ⟨h⟩
    · omega
    · omega
    · omega
    · refine ⟨?_, ?_, ?_, ?_⟩ <;> simp only [brI]
      · omega
      · omega
      · omega
      · exact fun _ => ⟨f3, trivial⟩
    · omega
  · rw [if_neg f3]; exact safe_out hbd _ _ _
end Go.Proofs.Ytdchhkdgcjnhpaa
