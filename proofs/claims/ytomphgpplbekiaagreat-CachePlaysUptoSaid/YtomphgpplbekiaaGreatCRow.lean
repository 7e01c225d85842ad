/- Rows of code, and what an append to a row of the call's own leaves, told with where the new row lies. -/
import Derived.Test.YtomphgpplbekiaaGreatIsaE
import Derived.Deep.AppendLies
import Derived.Deep.RegionHeldLaw
import Derived.Deep.DrawnRows
namespace Go.Proofs.YtomphgpplbekiaaGreat
open Go.RowKit

structure Rw where
  off : Int
  pc : Int
  dn : Int
  ex : Int
def rwC (r : Rw) : List Value := [.int .i64 r.off, .int .u32 r.pc, .int .i64 r.dn, .int .i64 r.ex]
def rwsC (rs : List Rw) : List Value := rs.flatMap rwC
theorem rwsC_len (rs : List Rw) : (rwsC rs).length = rs.length * 4 := by
  induction rs with
  | nil => rfl
  | cons r rs ih => simp only [rwsC, List.flatMap_cons, List.length_append, List.length_cons] at *; simp [rwC, ih]; omega
theorem rwsC_append (a b : List Rw) : rwsC (a ++ b) = rwsC a ++ rwsC b := by simp [rwsC]
theorem rwsC_one {rs : List Rw} : ∀ u ∈ rwsC rs, u.oneCell' = true := by
  intro u hu
  simp only [rwsC, List.mem_flatMap, rwC] at hu
  obtain ⟨r, -, hu⟩ := hu
  simp at hu
  rcases hu with rfl | rfl | rfl | rfl <;> rfl
/-- A row of rows of the call's own. -/
def RowR (w : World) (B : Nat) (v : Value) (rs : List Rw) : Prop := w.ownsRow B 49 4 v rs.length (rwsC rs)
theorem row_info : (Tryz.prog.info? 49).map (fun i => (i.zero, i.size, i.bytes)) = some (some (.agg #[.int .i64 0, .int .u32 0, .int .i64 0, .int .i64 0]), 4, 32) := by kernel_rfl
/-- What an append leaves: nothing else has turned, and where the new row lies. -/
structure Grew (w w' : World) (v v' : Value) : Prop where
  keeps : Keeps (fun k => some k = v.ownBlock) w w'
  fresh : ∀ k, some k = v'.ownBlock → some k = v.ownBlock ∨ w.heap.size ≤ k
  lt : ∀ k, some k = v'.ownBlock → k < w'.heap.size
theorem grew_mk {w w' : World} {v : Value} {g n cap H : Nat} (hg : w.grownBy w' v.ownBlock) (hat : v.ownBlock = some g ∨ g = H) (hH : w.heap.size = H) (hlt : g < w'.heap.size) : Grew w w' v (.slice (some ⟨g, 0, none⟩) n cap) :=
  ⟨keeps_grown hg fun k hk => hk.symm, fun k hk => by
    simp only [Value.ownBlock, Option.some.injEq] at hk
    subst hk
    rcases hat with h | h
    · exact .inl h.symm
    · exact .inr (by omega), fun k hk => by simp only [Value.ownBlock, Option.some.injEq] at hk; omega⟩
theorem info_of {P : Program} {t : TypeId} {z : Value} {s b : Nat} (hb : (P.info? t).map (fun i => (i.zero, i.size, i.bytes)) = some (some z, s, b)) : ∃ i, P.info? t = some i ∧ i.zero = some z ∧ i.size = s ∧ i.bytes = b := by
  revert hb
  cases P.info? t with
  | none => intro h; cases h
  | some i => intro h; simp only [Option.map_some, Option.some.injEq, Prod.mk.injEq] at h; exact ⟨i, rfl, h.1, h.2.1, h.2.2⟩
section
variable {ops : Array Oper} {rest : List Oper} {o : Oper} {a : Act} {w : World} {Q : Exit → Act → World → Prop}
/-- Rows behind rows. -/
theorem append_rows (hgd : o.guard = none) (s x : Operand) (ho : o.op = .call { callee := .builtin .append, args := #[s, x], argTypes := #[58, 58] })
    (B : Nat) (v : Value) (rs ns : List Rw) (hs : a.eval s = v) (hown : RowR w B v rs) (b c m : Nat) (cs : Array Value) (hx : a.eval x = .slice (some ⟨b, 0, none⟩) m c) (hm : ns.length = m) (hb : w.heap[b]? = some (.cells cs 49 (0, 0)))
    (hcs : cs.toList = rwsC ns) (hne : 0 < m) (hl : rs.length + m ≤ 20000) (hB : B ≤ w.heap.size)
    (h : ∀ g cap w', RowR w' B (.slice (some ⟨g, 0, none⟩) (rs.length + m) cap) (rs ++ ns) → Grew w w' v (.slice (some ⟨g, 0, none⟩) (rs.length + m) cap) → wpList Tryz.prog ops Q rest (a.put o.dst (.slice (some ⟨g, 0, none⟩) (rs.length + m) cap)) w') : wpList Tryz.prog ops Q (o :: rest) a w := by
  obtain ⟨i0, hi, hz0, hz1, hz2⟩ := info_of row_info
  subst hm
  refine wpList_append_lies w hgd s x 58 ho B 49 i0 _ 4 32 Tryz.underlying58 hi hz0 hz1 hz2 rfl (by decide) v rs.length (rwsC rs) hs hown ⟨b, 0, none⟩ ns.length c (rwsC ns) hx (rwsC_len _) ?_ (fun u hu => rwsC_one u hu) hne (by simp only [maxLen]; omega) (by omega) hB _ rfl ?_
  · rw [← hcs]; exact World.news_of_block hb
  · intro g cap w' h1 h2 h3 h4
    exact h g cap w' (by unfold RowR; rw [rwsC_append, List.length_append]; exact h1) (grew_mk h2 h3 rfl h4)
/-- The same, at a step of a region that draws. -/
theorem step_rows {K : Act → World → Prop} {E : Prop} (hgd : o.guard = none) (s x : Operand) (ho : o.op = .call { callee := .builtin .append, args := #[s, x], argTypes := #[58, 58] })
    (B : Nat) (v : Value) (rs ns : List Rw) (hs : a.eval s = v) (hown : RowR w B v rs) (b c m : Nat) (cs : Array Value) (hx : a.eval x = .slice (some ⟨b, 0, none⟩) m c) (hm : ns.length = m) (hb : w.heap[b]? = some (.cells cs 49 (0, 0)))
    (hcs : cs.toList = rwsC ns) (hne : 0 < m) (hl : rs.length + m ≤ 20000) (hB : B ≤ w.heap.size)
    (h : ∀ g cap w', RowR w' B (.slice (some ⟨g, 0, none⟩) (rs.length + m) cap) (rs ++ ns) → Grew w w' v (.slice (some ⟨g, 0, none⟩) (rs.length + m) cap) → K (a.put o.dst (.slice (some ⟨g, 0, none⟩) (rs.length + m) cap)) w') : if Region.wanted o (yielded ops a.tmps) = true then Oper.wp Tryz.prog o a w K Q else E := by
  obtain ⟨i0, hi, hz0, hz1, hz2⟩ := info_of row_info
  subst hm
  refine step_append_lies w hgd s x 58 ho B 49 i0 _ 4 32 Tryz.underlying58 hi hz0 hz1 hz2 rfl (by decide) v rs.length (rwsC rs) hs hown ⟨b, 0, none⟩ ns.length c (rwsC ns) hx (rwsC_len _) ?_ (fun u hu => rwsC_one u hu) hne (by simp only [maxLen]; omega) (by omega) hB _ rfl ?_
  · rw [← hcs]; exact World.news_of_block hb
  · intro g cap w' h1 h2 h3 h4
    exact h g cap w' (by unfold RowR; rw [rwsC_append, List.length_append]; exact h1) (grew_mk h2 h3 rfl h4)
/-- Bytes behind bytes. -/
theorem append_bytes (hgd : o.guard = none) (s x : Operand) (ho : o.op = .call { callee := .builtin .append, args := #[s, x], argTypes := #[57, 57] })
    (B : Nat) (v : Value) (xs : List Int) (hs : a.eval s = v) (B2 : Nat) (v2 : Value) (ys : List Int) (hx : a.eval x = v2) (hown : RowB w B v xs)
    (h2 : RowB w B2 v2 ys) (hne : ys ≠ []) (hl : xs.length + ys.length ≤ 20000) (hB : B ≤ w.heap.size)
    (h : ∀ g cap w', RowB w' B (.slice (some ⟨g, 0, none⟩) (xs.length + ys.length) cap) (xs ++ ys) → Grew w w' v (.slice (some ⟨g, 0, none⟩) (xs.length + ys.length) cap) → wpList Tryz.prog ops Q rest (a.put o.dst (.slice (some ⟨g, 0, none⟩) (xs.length + ys.length) cap)) w') : wpList Tryz.prog ops Q (o :: rest) a w := by
  obtain ⟨i0, hi, hz0, hz1, hz2⟩ := info_of byte_info
  have hlen : 0 < ys.length := List.length_pos_iff.2 hne
  obtain ⟨g, cap, rfl, -, -⟩ := World.ownsRow.form h2 hlen
  refine wpList_append_lies w hgd s x 57 ho B 5 i0 _ 1 1 Tryz.underlying57 hi hz0 hz1 hz2 rfl (by decide) v xs.length (xs.map (Value.int .u8)) hs hown ⟨g, 0, none⟩ ys.length cap (ys.map (Value.int .u8)) hx (by simp) (World.ownsRow.cells h2 rfl) ?_ hlen (by simp only [maxLen]; omega) (by omega) hB _ rfl ?_
  · intro u hu
    simp at hu
    obtain ⟨y, -, rfl⟩ := hu
    rfl
  · intro g cap w' h1 h2 h3 h4
    exact h g cap w' (by unfold RowB; rw [List.map_append, List.length_append]; exact h1) (grew_mk h2 h3 rfl h4)
theorem step_bytes {K : Act → World → Prop} {E : Prop} (hgd : o.guard = none) (s x : Operand) (ho : o.op = .call { callee := .builtin .append, args := #[s, x], argTypes := #[57, 57] })
    (B : Nat) (v : Value) (xs : List Int) (hs : a.eval s = v) (B2 : Nat) (v2 : Value) (ys : List Int) (hx : a.eval x = v2) (hown : RowB w B v xs)
    (h2 : RowB w B2 v2 ys) (hne : ys ≠ []) (hl : xs.length + ys.length ≤ 20000) (hB : B ≤ w.heap.size)
    (h : ∀ g cap w', RowB w' B (.slice (some ⟨g, 0, none⟩) (xs.length + ys.length) cap) (xs ++ ys) → Grew w w' v (.slice (some ⟨g, 0, none⟩) (xs.length + ys.length) cap) → K (a.put o.dst (.slice (some ⟨g, 0, none⟩) (xs.length + ys.length) cap)) w') : if Region.wanted o (yielded ops a.tmps) = true then Oper.wp Tryz.prog o a w K Q else E := by
  obtain ⟨i0, hi, hz0, hz1, hz2⟩ := info_of byte_info
  have hlen : 0 < ys.length := List.length_pos_iff.2 hne
  obtain ⟨g, cap, rfl, -, -⟩ := World.ownsRow.form h2 hlen
  refine step_append_lies w hgd s x 57 ho B 5 i0 _ 1 1 Tryz.underlying57 hi hz0 hz1 hz2 rfl (by decide) v xs.length (xs.map (Value.int .u8)) hs hown ⟨g, 0, none⟩ ys.length cap (ys.map (Value.int .u8)) hx (by simp) (World.ownsRow.cells h2 rfl) ?_ hlen (by simp only [maxLen]; omega) (by omega) hB _ rfl ?_
  · intro u hu
    simp at hu
    obtain ⟨y, -, rfl⟩ := hu
    rfl
  · intro g cap w' h1 h2 h3 h4
    exact h g cap w' (by unfold RowB; rw [List.map_append, List.length_append]; exact h1) (grew_mk h2 h3 rfl h4)
end
theorem cellK {F : Nat → Prop} {w w' : World} {S o : Nat} {v : Value} (hk : Keeps F w w') (hF : ¬ F S) (h : w.cell? ⟨S, o, none⟩ = some v) : w'.cell? ⟨S, o, none⟩ = some v := by
  have hS : S < w.heap.size := World.block_lt_of_cell? w ⟨S, o, none⟩ h
  rw [← h]
  unfold World.cell?
  rw [hk.block S hS hF]
theorem frozenK {F : Nat → Prop} {w w' : World} {S o : Nat} {b : Bool} (hk : Keeps F w w') (hF : ¬ F S) (hS : S < w.heap.size) (h : w.frozen? ⟨S, o, none⟩ = b) : w'.frozen? ⟨S, o, none⟩ = b := by
  rw [← h]
  unfold World.frozen?
  rw [hk.block S hS hF]
theorem cellA {w : World} {S o : Nat} {v : Value} (x : Obj) (h : w.cell? ⟨S, o, none⟩ = some v) : (w.alloc x).cell? ⟨S, o, none⟩ = some v := cellK (F := fun _ => False) ((Keeps.refl _ _).alloc _) id h
theorem cellD {w : World} {S o : Nat} {v : Value} (h : w.cell? ⟨S, o, none⟩ = some v) : w.drew.cell? ⟨S, o, none⟩ = some v := h
theorem frozenA {w : World} {S o : Nat} {b : Bool} (x : Obj) (hS : S < w.heap.size) (h : w.frozen? ⟨S, o, none⟩ = b) : (w.alloc x).frozen? ⟨S, o, none⟩ = b := frozenK (F := fun _ => False) ((Keeps.refl _ _).alloc _) id hS h
theorem frozenD {w : World} {S o : Nat} {b : Bool} (h : w.frozen? ⟨S, o, none⟩ = b) : w.drew.frozen? ⟨S, o, none⟩ = b := h
theorem owns_apart {F : Nat → Prop} {w w' : World} {base : Nat} {e : TypeId} {size : Nat} {v : Value} {n : Nat} {xs : List Value} (h : w.ownsRow base e size v n xs) (k : Keeps F w w') (hF : ∀ g, some g = v.ownBlock → ¬ F g) : w'.ownsRow base e size v n xs := by
  obtain ⟨h1, h2⟩ := h
  refine ⟨h1, ?_⟩
  rcases h2 with h2 | ⟨g, cap, cur, rfl, hg, hh, r⟩
  · exact .inl h2
  · exact .inr ⟨g, cap, cur, rfl, hg, k.get hh (hF g rfl), r⟩
/-- Code that is being written: the block that holds it, its bytes and rows. -/
structure WrSt (w : World) (W : Nat) (A : Array Value) (T : TypeId) (bv rv : Value) (bs : List Int) (rs : List Rw) : Prop where
  blk : w.heap[W]? = some (.cells A T (0, 0))
  a0 : A[0]? = some bv
  a1 : A[1]? = some rv
  rb : RowB w (W + 1) bv bs
  rr : RowR w (W + 1) rv rs
  apart : ∀ k, some k = bv.ownBlock → some k = rv.ownBlock → False
structure Touch (w w' : World) (W : Nat) (bv rv bv' rv' : Value) : Prop where
  keeps : Keeps (fun k => k = W ∨ some k = bv.ownBlock ∨ some k = rv.ownBlock) w w'
  fb : ∀ k, some k = bv'.ownBlock → some k = bv.ownBlock ∨ w.heap.size ≤ k
  fr : ∀ k, some k = rv'.ownBlock → some k = rv.ownBlock ∨ w.heap.size ≤ k
theorem Touch.refl (w : World) (W : Nat) (bv rv : Value) : Touch w w W bv rv bv rv := ⟨Keeps.refl _ _, fun _ h => .inl h, fun _ h => .inl h⟩
theorem Touch.trans {a b c : World} {W : Nat} {bv rv bv' rv' bv2 rv2 : Value} (h : Touch a b W bv rv bv' rv') (k : Touch b c W bv' rv' bv2 rv2) : Touch a c W bv rv bv2 rv2 := by
  have hs := h.keeps.size
  refine ⟨⟨k.keeps.os.trans h.keeps.os, k.keeps.tape.trans h.keeps.tape, k.keeps.output.trans h.keeps.output, Nat.le_trans hs k.keeps.size, fun i hi hf => ?_⟩, fun i hi => ?_, fun i hi => ?_⟩
  · rw [k.keeps.block i (Nat.lt_of_lt_of_le hi hs) ?_, h.keeps.block i hi hf]
    rintro (h1 | h1 | h1)
    · exact hf (.inl h1)
    · rcases h.fb i h1 with h2 | h2
      · exact hf (.inr (.inl h2))
      · omega
    · rcases h.fr i h1 with h2 | h2
      · exact hf (.inr (.inr h2))
      · omega
  · rcases k.fb i hi with h1 | h1
    · exact h.fb i h1
    · exact .inr (by omega)
  · rcases k.fr i hi with h1 | h1
    · exact h.fr i h1
    · exact .inr (by omega)
theorem Touch.of_same {w w' : World} (h : Same w w') (W : Nat) (bv rv : Value) : Touch w w' W bv rv bv rv := ⟨h.mono fun _ _ => False.elim, fun _ h => .inl h, fun _ h => .inl h⟩
theorem owns_slice {w : World} {base : Nat} {e : TypeId} {size : Nat} {v : Value} {n : Nat} {xs : List Value} (h : w.ownsRow base e size v n xs) : ∃ a c, v = .slice a n c := by
  rcases h.2 with ⟨rfl, rfl⟩ | ⟨g, cap, cur, rfl, -⟩
  · exact ⟨_, _, rfl⟩
  · exact ⟨_, _, rfl⟩
theorem WrSt.same {w w' : World} {W : Nat} {A : Array Value} {T : TypeId} {bv rv : Value} {bs : List Int} {rs : List Rw} (h : WrSt w W A T bv rv bs rs) (hk : Same w w') : WrSt w' W A T bv rv bs rs :=
  ⟨hk.get h.blk id, h.a0, h.a1, owns_apart h.rb hk (fun _ _ => id), owns_apart h.rr hk (fun _ _ => id), h.apart⟩
/-- Behind an append of rows, and its store. -/
theorem WrSt.rows {w w1 : World} {W : Nat} {A : Array Value} {T : TypeId} {bv rv rv' : Value} {bs : List Int} {rs rs' : List Rw} (h : WrSt w W A T bv rv bs rs) (hr : RowR w1 (W + 1) rv' rs') (hg : Grew w w1 rv rv') :
    WrSt (w1.setCell ⟨W, 1, none⟩ rv') W (A.setIfInBounds 1 rv') T bv rv' bs rs' ∧ Touch w (w1.setCell ⟨W, 1, none⟩ rv') W bv rv bv rv' := by
  have hW := lt_of_block h.blk
  have hrW : ∀ k, some k = rv.ownBlock → W < k := fun k hk => (World.ownsRow.lt h.rr k hk.symm).1
  have hbW : ∀ k, some k = bv.ownBlock → W < k ∧ k < w.heap.size := fun k hk => World.ownsRow.lt h.rb k hk.symm
  have hr1 : ∀ k, some k = rv'.ownBlock → W < k := fun k hk => (World.ownsRow.lt hr k hk.symm).1
  have hks : Keeps (fun k => k = W) w1 (w1.setCell ⟨W, 1, none⟩ rv') := Keeps.setCell (F := fun k => k = W) (Keeps.refl _ _) (p := ⟨W, 1, none⟩) (fun _ => rfl) _
  have hb1 : w1.heap[W]? = some (.cells A T (0, 0)) := hg.keeps.get h.blk (fun e => by have := hrW W e; omega)
  have hkk : Keeps (fun k => k = W ∨ some k = bv.ownBlock ∨ some k = rv.ownBlock) w (w1.setCell ⟨W, 1, none⟩ rv') :=
    (hg.keeps.mono (fun k _ hk => Or.inr (Or.inr hk))).trans (hks.mono fun k _ hk => .inl hk)
  have hsz : 1 < A.size := (Array.getElem?_eq_some_iff.1 h.a1).1
  refine ⟨⟨block_set hb1 1 rv', by rw [Array.getElem?_setIfInBounds]; simp [h.a0], by rw [Array.getElem?_setIfInBounds]; simp [hsz], owns_apart (owns_apart h.rb hg.keeps (fun k hk hk2 => h.apart k hk hk2)) hks (fun k hk e => by have := (hbW k hk).1; omega), owns_apart hr hks (fun k hk e => by have := hr1 k hk; omega), ?_⟩, hkk, fun _ hk => .inl hk, fun k hk => hg.fresh k hk⟩
  intro k hk hk2
  rcases hg.fresh k hk2 with h1 | h1
  · exact h.apart k hk h1
  · have := (hbW k hk).2
    omega
theorem WrSt.bytes {w w1 : World} {W : Nat} {A : Array Value} {T : TypeId} {bv rv bv' : Value} {bs bs' : List Int} {rs : List Rw} (h : WrSt w W A T bv rv bs rs) (hr : RowB w1 (W + 1) bv' bs') (hg : Grew w w1 bv bv') :
    WrSt (w1.setCell ⟨W, 0, none⟩ bv') W (A.setIfInBounds 0 bv') T bv' rv bs' rs ∧ Touch w (w1.setCell ⟨W, 0, none⟩ bv') W bv rv bv' rv := by
  have hW := lt_of_block h.blk
  have hrW : ∀ k, some k = bv.ownBlock → W < k := fun k hk => (World.ownsRow.lt h.rb k hk.symm).1
  have hbW : ∀ k, some k = rv.ownBlock → W < k ∧ k < w.heap.size := fun k hk => World.ownsRow.lt h.rr k hk.symm
  have hr1 : ∀ k, some k = bv'.ownBlock → W < k := fun k hk => (World.ownsRow.lt hr k hk.symm).1
  have hks : Keeps (fun k => k = W) w1 (w1.setCell ⟨W, 0, none⟩ bv') := Keeps.setCell (F := fun k => k = W) (Keeps.refl _ _) (p := ⟨W, 0, none⟩) (fun _ => rfl) _
  have hb1 : w1.heap[W]? = some (.cells A T (0, 0)) := hg.keeps.get h.blk (fun e => by have := hrW W e; omega)
  have hkk : Keeps (fun k => k = W ∨ some k = bv.ownBlock ∨ some k = rv.ownBlock) w (w1.setCell ⟨W, 0, none⟩ bv') :=
    (hg.keeps.mono (fun k _ hk => Or.inr (Or.inl hk))).trans (hks.mono fun k _ hk => .inl hk)
  have hsz : 1 < A.size := (Array.getElem?_eq_some_iff.1 h.a1).1
  refine ⟨⟨block_set hb1 0 bv', by rw [Array.getElem?_setIfInBounds]; simp [show 0 < A.size by omega], by rw [Array.getElem?_setIfInBounds]; simp [h.a1], owns_apart hr hks (fun k hk e => by have := hr1 k hk; omega), owns_apart (owns_apart h.rr hg.keeps (fun k hk hk2 => h.apart k hk2 hk)) hks (fun k hk e => by have := (hbW k hk).1; omega), ?_⟩, hkk, fun k hk => hg.fresh k hk, fun _ hk => .inl hk⟩
  intro k hk hk2
  rcases hg.fresh k hk with h1 | h1
  · exact h.apart k h1 hk2
  · have := (hbW k hk2).2
    omega
/-- Behind a store into another cell of the block. -/
theorem WrSt.other {w : World} {W : Nat} {A : Array Value} {T : TypeId} {bv rv : Value} {bs : List Int} {rs : List Rw} (h : WrSt w W A T bv rv bs rs) (o : Nat) (ho : 2 ≤ o) (v : Value) :
    WrSt (w.setCell ⟨W, o, none⟩ v) W (A.setIfInBounds o v) T bv rv bs rs ∧ Touch w (w.setCell ⟨W, o, none⟩ v) W bv rv bv rv := by
  have hks : Keeps (fun k => k = W) w (w.setCell ⟨W, o, none⟩ v) := Keeps.setCell (F := fun k => k = W) (Keeps.refl _ _) (p := ⟨W, o, none⟩) (fun _ => rfl) _
  have hrW : ∀ k, some k = bv.ownBlock → W < k := fun k hk => (World.ownsRow.lt h.rb k hk.symm).1
  have hbW : ∀ k, some k = rv.ownBlock → W < k := fun k hk => (World.ownsRow.lt h.rr k hk.symm).1
  refine ⟨⟨block_set h.blk o v, by rw [Array.getElem?_setIfInBounds]; simp [show o ≠ 0 by omega, h.a0], by rw [Array.getElem?_setIfInBounds]; simp [show o ≠ 1 by omega, h.a1], owns_apart h.rb hks (fun k hk e => by have := hrW k hk; omega), owns_apart h.rr hks (fun k hk e => by have := hbW k hk; omega), h.apart⟩, hks.mono fun k _ hk => .inl hk, fun _ hk => .inl hk, fun _ hk => .inl hk⟩
theorem Touch.get {w w' : World} {W : Nat} {bv rv bv' rv' : Value} {k : Nat} {x : Obj} (h : Touch w w' W bv rv bv' rv') (hx : w.heap[k]? = some x) (h0 : k ≠ W) (h1 : some k ≠ bv.ownBlock) (h2 : some k ≠ rv.ownBlock) : w'.heap[k]? = some x :=
  h.keeps.get hx (fun e => by
    rcases e with e | e | e
    · exact h0 e
    · exact h1 e
    · exact h2 e)
end Go.Proofs.YtomphgpplbekiaaGreat
