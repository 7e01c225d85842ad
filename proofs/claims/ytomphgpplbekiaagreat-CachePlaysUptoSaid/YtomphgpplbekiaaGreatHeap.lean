/- Small laws about the world's blocks, seen whole: what a new block, a store and a draw do to them; and a frame 'Keeps F w w'': outside of the blocks F nothing that was there has turned. No program is named here. -/
import Derived.WalkKit
import Derived.Deep.Draws
namespace Go.Proofs.YtomphgpplbekiaaGreat
open Go.RowKit

/-- Outside of the blocks F all that was in w is in w' as it was. -/
structure Keeps (F : Nat → Prop) (w w' : World) : Prop where
  os : w'.os = w.os
  tape : w'.tape = w.tape
  output : w'.output = w.output
  size : w.heap.size ≤ w'.heap.size
  block : ∀ k, k < w.heap.size → ¬ F k → w'.heap[k]? = w.heap[k]?

theorem Keeps.refl (F : Nat → Prop) (w : World) : Keeps F w w := ⟨rfl, rfl, rfl, Nat.le_refl _, fun _ _ _ => rfl⟩
theorem Keeps.trans {F : Nat → Prop} {a b c : World} (h : Keeps F a b) (k : Keeps F b c) : Keeps F a c :=
  ⟨k.os.trans h.os, k.tape.trans h.tape, k.output.trans h.output, Nat.le_trans h.size k.size, fun i hi hf => (k.block i (Nat.lt_of_lt_of_le hi h.size) hf).trans (h.block i hi hf)⟩
theorem Keeps.mono {F G : Nat → Prop} {w w' : World} (h : Keeps F w w') (hF : ∀ k, k < w.heap.size → F k → G k) : Keeps G w w' :=
  ⟨h.os, h.tape, h.output, h.size, fun k hk hg => h.block k hk fun hf => hg (hF k hk hf)⟩
theorem Keeps.drew {F : Nat → Prop} {a w : World} (h : Keeps F a w) : Keeps F a w.drew := ⟨h.os, h.tape, h.output, h.size, h.block⟩
theorem Keeps.drewN {F : Nat → Prop} {a w : World} (h : Keeps F a w) (n : Nat) : Keeps F a (w.drewN n) := ⟨h.os, h.tape, h.output, h.size, h.block⟩
theorem Keeps.alloc {F : Nat → Prop} {a w : World} (h : Keeps F a w) (o : Obj) : Keeps F a (w.alloc o) :=
  ⟨h.os, h.tape, h.output, Nat.le_trans h.size (by simp), fun k hk hf => (Below.heap_alloc _ _ _ (Nat.lt_of_lt_of_le hk h.size)).trans (h.block k hk hf)⟩
theorem Keeps.setCell {F : Nat → Prop} {a w : World} (h : Keeps F a w) {p : Addr} (hp : p.block < a.heap.size → F p.block) (u : Value) : Keeps F a (w.setCell p u) :=
  ⟨h.os, h.tape, h.output, by simpa [World.setCell] using h.size, fun k hk hf => (Below.heap_setCell _ _ _ _ (fun e => hf (by rw [e]; exact hp (by rw [← e]; exact hk)))).trans (h.block k hk hf)⟩
theorem Keeps.below {F : Nat → Prop} {w w' : World} {B : Nat} (h : Keeps F w w') (hB : B ≤ w.heap.size) (hF : ∀ k, k < B → ¬ F k) : Below B w w' :=
  ⟨h.os, h.tape, h.output, h.size, fun k hk => h.block k (Nat.lt_of_lt_of_le hk hB) (hF k hk)⟩
theorem below_keeps {w w' : World} {B : Nat} (h : Below B w w') (F : Nat → Prop) (hF : ∀ k, k < w.heap.size → B ≤ k → F k) : Keeps F w w' :=
  ⟨h.os, h.tape, h.output, h.size, fun k hk hf => h.block k (Nat.lt_of_not_le fun e => hf (hF k hk e))⟩
/-- Nothing that was there has turned. -/
abbrev Same (w w' : World) : Prop := Keeps (fun _ => False) w w'
theorem same_below {w w' : World} (h : Same w w') : Below w.heap.size w w' := Keeps.below h (Nat.le_refl _) (fun _ _ => id)
theorem Keeps.get {F : Nat → Prop} {w w' : World} (h : Keeps F w w') {k : Nat} {o : Obj} (hk : w.heap[k]? = some o) (hF : ¬ F k) : w'.heap[k]? = some o := by
  have hlt : k < w.heap.size := by
    rcases Nat.lt_or_ge k w.heap.size with h | h
    · exact h
    · simp [Array.getElem?_eq_none h] at hk
  rw [h.block k hlt hF, hk]
theorem lt_of_block {w : World} {k : Nat} {o : Obj} (hk : w.heap[k]? = some o) : k < w.heap.size := by
  rcases Nat.lt_or_ge k w.heap.size with h | h
  · exact h
  · simp [Array.getElem?_eq_none h] at hk
theorem cell_of {w : World} {b : Nat} {A : Array Value} {t : TypeId} {f : Nat × Nat} (h : w.heap[b]? = some (.cells A t f)) (o : Nat) : w.cell? ⟨b, o, none⟩ = A[o]? := by
  simp [World.cell?, h]
theorem frozen_of {w : World} {b : Nat} {A : Array Value} {t : TypeId} (h : w.heap[b]? = some (.cells A t (0, 0))) (o : Nat) : w.frozen? ⟨b, o, none⟩ = false := by
  simp [World.frozen?, h]
theorem block_new (w : World) (o : Obj) : (w.alloc o).heap[w.heap.size]? = some o := by
  show (w.heap.push o)[w.heap.size]? = _
  simp
theorem block_old {w : World} {k : Nat} {x : Obj} (o : Obj) (h : w.heap[k]? = some x) : (w.alloc o).heap[k]? = some x := by
  rw [Below.heap_alloc _ _ _ (lt_of_block h), h]
theorem block_set {w : World} {b : Nat} {A : Array Value} {t : TypeId} {f : Nat × Nat} (h : w.heap[b]? = some (.cells A t f)) (o : Nat) (v : Value) :
    (w.setCell ⟨b, o, none⟩ v).heap[b]? = some (.cells (A.setIfInBounds o v) t f) := by
  simp [World.setCell, Array.getElem?_modify, h]
theorem block_other {w : World} {k : Nat} {x : Option Obj} {a : Addr} (v : Value) (h : w.heap[k]? = x) (hk : k ≠ a.block) : (w.setCell a v).heap[k]? = x := by
  rw [Below.heap_setCell _ _ _ _ hk, h]
theorem wrapI (x : Int) (h0 : -9223372036854775808 ≤ x) (h1 : x ≤ 9223372036854775807) : IntKind.i64.wrap x = x := IntWalk.i64_in _ (by omega)
/-- 'clear(s)' of a slice that is a whole block. -/
theorem run_clear_block {P : Program} (w : World) (t e ty : TypeId) (z : Value) (ht : P.underlying t = some (.slice e)) (hz : ∀ w, (zeroValue e).run P w = .ok z w) (g n c : Nat) (cur : Array Value) (t' : TypeId) (hn : 0 < n)
    (hg : w.heap[g]? = some (.cells cur t' (0, 0))) (hsz : (Builtin.zeroCells z.cells n).size = cur.size) (h1 : ∀ v ∈ (Builtin.zeroCells z.cells n).toList, v.oneCell' = true) :
    (Builtin.clear_ #[t] ty #[.slice (some ⟨g, 0, none⟩) n c]).run P w = .ok (.tuple #[]) (w.setRow g (Builtin.zeroCells z.cells n)) := by
  have hst := run_storeCells_at (P := P) g 0 t' (Builtin.zeroCells z.cells n).toList 0 cur w hg (by simp [hsz]) h1
  obtain ⟨m, rfl⟩ : ∃ m, n = m + 1 := ⟨n - 1, by omega⟩
  have hd : cur.toList.drop (0 + 0 + (Builtin.zeroCells z.cells (m + 1)).toList.length) = [] := by
    rw [List.drop_eq_nil_iff]; simp [hsz]
  rw [hd] at hst
  simp only [Nat.add_zero, List.take_zero, List.nil_append, List.append_nil, Array.toArray_toList] at hst
  simp [Builtin.clear_, run_underlying ht, hz, hst]
theorem Keeps.setRow {F : Nat → Prop} {a w : World} (h : Keeps F a w) {g : Nat} (hg : g < a.heap.size → F g) (cs : Array Value) : Keeps F a (w.setRow g cs) :=
  ⟨h.os, h.tape, h.output, by simpa using h.size, fun k hk hf => (setRow_other w g k cs (fun e => hf (by rw [e]; exact hg (by rw [← e]; exact hk)))).trans (h.block k hk hf)⟩
theorem below_drewN {B : Nat} {a w : World} (h : Below B a w) (n : Nat) : Below B a (w.drewN n) := ⟨h.os, h.tape, h.output, h.size, h.block⟩
theorem owns_keeps {F : Nat → Prop} {w w' : World} {base : Nat} {e : TypeId} {size : Nat} {v : Value} {n : Nat} {xs : List Value} (h : w.ownsRow base e size v n xs) (k : Keeps F w w') (hF : ∀ g, base ≤ g → ¬ F g) : w'.ownsRow base e size v n xs := by
  obtain ⟨h1, h2⟩ := h
  refine ⟨h1, ?_⟩
  rcases h2 with h2 | ⟨g, cap, cur, hv, hg, hh, r⟩
  · exact .inl h2
  · exact .inr ⟨g, cap, cur, hv, hg, k.get hh (hF g hg), r⟩
theorem keeps_grown {F : Nat → Prop} {w w' : World} {row : Option Nat} (h : w.grownBy w' row) (hF : ∀ k, row = some k → F k) : Keeps F w w' :=
  ⟨h.os, h.tape, h.output, h.size, fun k hk hf => h.block k hk (fun e => hf (hF k e.symm))⟩
theorem same_then {G : Nat → Prop} {w a b : World} (h : Same w a) (k : Keeps G a b) (hG : ∀ k, G k → w.heap.size ≤ k) : Same w b :=
  ⟨k.os.trans h.os, k.tape.trans h.tape, k.output.trans h.output, Nat.le_trans h.size k.size, fun i hi _ => (k.block i (Nat.lt_of_lt_of_le hi h.size) (fun e => absurd (hG i e) (by omega))).trans (h.block i hi id)⟩
theorem hidE {p : Prop} (h : p) : Hid p := h
end Go.Proofs.YtomphgpplbekiaaGreat
