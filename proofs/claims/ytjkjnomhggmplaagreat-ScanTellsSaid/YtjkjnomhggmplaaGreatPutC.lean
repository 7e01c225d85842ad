/- Rows of numbers: laws of no program for package scan's put: cells that are laid one behind the other, a row told by its cells, rising lists. -/
import Derived.Test.YtjkjnomhggmplaaGreatRamN
import Derived.Laws.IdiomCopy
import Derived.Lib.SlicesSearch
namespace Go.Proofs.YtjkjnomhggmplaaGreat
open Go.RowKit

theorem setCells_block : ∀ (vs : List Value) (o : Nat) (w : World) (b : Nat) (cur : Array Value) (t : TypeId) (f : Nat × Nat), w.heap[b]? = some (.cells cur t f) → ∃ cur', (w.setCells b o vs).heap[b]? = some (.cells cur' t f) ∧ cur'.size = cur.size
  | [], _, _, _, cur, _, _, h => ⟨cur, h, rfl⟩
  | v :: r, o, w, b, cur, t, f, h => by
    obtain ⟨c', h1, h2⟩ := setCells_block r (o + 1) _ b _ t f (block_set h o v)
    exact ⟨c', h1, by rw [h2]; simp⟩
theorem keeps_setCells {F : Nat → Prop} {a : World} {b : Nat} (hb : b < a.heap.size → F b) : ∀ (vs : List Value) (o : Nat) (w : World), Keeps F a w → Keeps F a (w.setCells b o vs)
  | [], _, _, h => h
  | v :: r, o, _, h => keeps_setCells hb r (o + 1) _ (h.setCell (p := ⟨b, o, none⟩) hb v)
theorem owns_cells {w : World} {B : Nat} {e : TypeId} {g n cap : Nat} {cur : Array Value} {xs : List Value} (hg : w.heap[g]? = some (.cells cur e (0, 0))) (hB : B ≤ g) (hs : cur.size = cap) (hn : n ≤ cap) (hm : cap ≤ maxLen) (hl : xs.length = n)
    (h : ∀ j, j < n → w.cell? ⟨g, j, none⟩ = xs[j]?) : w.ownsRow B e 1 (.slice (some ⟨g, 0, none⟩) n cap) n xs := by
  refine ⟨by omega, .inr ⟨g, cap, cur, rfl, hB, hg, hn, hm, by omega, ?_⟩⟩
  apply List.ext_getElem?
  intro j
  rw [List.getElem?_take]
  split
  · rename_i hj
    have := h j (by omega)
    rw [cell_of hg] at this
    rw [← this]
    simp
  · rw [List.getElem?_eq_none]; omega
/-- A rising list with one more, once. -/
def putL (xs : List Int) (x : Int) : List Int := if xs.contains x then xs else xs.take (xs.countP (· < x)) ++ x :: xs.drop (xs.countP (· < x))
def Rising (xs : List Int) : Prop := xs.Pairwise (· < ·)
theorem mem_putL {xs : List Int} {x y : Int} : y ∈ putL xs x ↔ y = x ∨ y ∈ xs := by
  unfold putL
  split
  · rename_i h
    simp at h
    constructor
    · exact .inr
    · rintro (rfl | h2)
      · exact h
      · exact h2
  · have e : y ∈ xs ↔ y ∈ xs.take (xs.countP (· < x)) ∨ y ∈ xs.drop (xs.countP (· < x)) := by
      rw [← List.mem_append, List.take_append_drop]
    rw [e, List.mem_append, List.mem_cons]
    constructor
    · rintro (h | h | h)
      · exact .inr (.inl h)
      · exact .inl h
      · exact .inr (.inr h)
    · rintro (h | h | h)
      · exact .inr (.inl h)
      · exact .inl h
      · exact .inr (.inr h)
theorem rising_le {xs : List Int} (h : Rising xs) : xs.Pairwise (· ≤ ·) := h.imp fun h => Int.le_of_lt h
theorem count_split {xs : List Int} (h : Rising xs) (x : Int) : (∀ y ∈ xs.take (xs.countP (· < x)), y < x) ∧ (∀ y ∈ xs.drop (xs.countP (· < x)), x ≤ y) := by
  induction xs with
  | nil => simp
  | cons a r ih =>
    obtain ⟨h1, h2⟩ := List.pairwise_cons.1 h
    obtain ⟨i1, i2⟩ := ih h2
    by_cases ha : a < x
    · have e : (a :: r).countP (· < x) = r.countP (· < x) + 1 := by simp [ha]
      rw [e]
      refine ⟨fun y hy => ?_, fun y hy => i2 y (by simpa using hy)⟩
      rw [List.take_succ_cons] at hy
      rcases List.mem_cons.1 hy with rfl | hy
      · exact ha
      · exact i1 y hy
    · have e0 : r.countP (· < x) = 0 := by
        rw [List.countP_eq_zero]
        intro y hy
        have := h1 y hy
        simp; omega
      have e : (a :: r).countP (· < x) = 0 := by simp [ha, e0]
      rw [e]
      refine ⟨fun y hy => by simp at hy, fun y hy => ?_⟩
      rw [List.drop_zero] at hy
      rcases List.mem_cons.1 hy with rfl | hy
      · omega
      · have := h1 y hy; omega
theorem rising_putL {xs : List Int} (h : Rising xs) (x : Int) : Rising (putL xs x) := by
  unfold putL
  split
  · exact h
  · rename_i hc
    simp at hc
    obtain ⟨h1, h2⟩ := count_split h x
    have hd : ∀ y ∈ xs.drop (xs.countP (· < x)), x < y := fun y hy => by
      have := h2 y hy
      have : x ≠ y := by rintro rfl; exact hc (List.mem_of_mem_drop hy)
      omega
    refine List.pairwise_append.2 ⟨h.sublist (List.take_sublist _ _), List.pairwise_cons.2 ⟨hd, h.sublist (List.drop_sublist _ _)⟩, fun a ha b hb => ?_⟩
    have ha := h1 a ha
    rcases List.mem_cons.1 hb with rfl | hb
    · exact ha
    · have := hd b hb; omega
theorem length_putL_le (xs : List Int) (x : Int) : (putL xs x).length ≤ xs.length + 1 := by
  unfold putL
  split
  · omega
  · have : xs.countP (· < x) ≤ xs.length := List.countP_le_length
    simp; omega
theorem length_putL_ge (xs : List Int) (x : Int) : xs.length ≤ (putL xs x).length := by
  unfold putL
  split
  · omega
  · have : xs.countP (· < x) ≤ xs.length := List.countP_le_length
    simp; omega
theorem GrewS.self {w : World} {v : Value} {B : Nat} {e : TypeId} {s n : Nat} {xs : List Value} (h : w.ownsRow B e s v n xs) : GrewS w w v v := by
  refine ⟨Keeps.refl _ _, fun k hk => .inl hk, fun k hk => ?_⟩
  obtain ⟨-, h2⟩ := h
  rcases h2 with ⟨rfl, -⟩ | ⟨g, cap, cur, rfl, -, hg, -⟩
  · simp [Value.ownBlock] at hk
  · simp [Value.ownBlock] at hk
    subst hk
    exact lt_of_block hg
end Go.Proofs.YtjkjnomhggmplaaGreat
