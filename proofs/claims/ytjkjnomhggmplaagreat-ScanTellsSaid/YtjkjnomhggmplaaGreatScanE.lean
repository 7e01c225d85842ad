/- Package scan: lay. -/
import Derived.Test.YtjkjnomhggmplaaGreatScanD
namespace Go.Proofs.YtjkjnomhggmplaaGreat
open Go.RowKit

theorem Keeps.trans2 {F G : Nat → Prop} {a b c : World} (h : Keeps F a b) (k : Keeps G b c) (hG : ∀ j, j < a.heap.size → G j → F j) : Keeps F a c :=
  ⟨k.os.trans h.os, k.tape.trans h.tape, k.output.trans h.output, Nat.le_trans h.size k.size, fun i hi hf => (k.block i (Nat.lt_of_lt_of_le hi h.size) (fun e => hf (hG i hi e))).trans (h.block i hi hf)⟩
/-- The cells of instructions. -/
def insC (l : List In) : List Value := l.flatMap fun i => [.int .u8 i.op, .int .u8 i.a, .int .u8 i.b, .int .i32 i.imm]
theorem insC_len (l : List In) : (insC l).length = l.length * 4 := by
  unfold insC
  induction l with
  | nil => rfl
  | cons a r ih => simp only [List.flatMap_cons, List.length_append, ih, List.length_cons, List.length_nil]; omega
theorem insC_append (l r : List In) : insC (l ++ r) = insC l ++ insC r := by simp [insC]
def rowN (w : World) (B : Nat) (v : Value) (l : List In) : Prop := w.ownsRow B 67 4 v l.length (insC l)
theorem ins_info : (Tryz.prog.info? 67).map (fun i => (i.zero, i.size, i.bytes)) = some (some (.agg #[.int .u8 0, .int .u8 0, .int .u8 0, .int .i32 0]), 4, 8) := by kernel_rfl
theorem appendN {ops : Array Oper} {rest : List Oper} {o : Oper} {a : Act} {w : World} {Q : Exit → Act → World → Prop} (hgd : o.guard = none) (s x : Operand) (ho : o.op = .call { callee := .builtin .append, args := #[s, x], argTypes := #[23, 23] })
    (B : Nat) (v : Value) (l : List In) (hs : a.eval s = v) (hown : rowN w B v l) (b c : Nat) (i : In) (hx : a.eval x = .slice (some ⟨b, 0, none⟩) 1 c) (hb : ∃ T, w.heap[b]? = some (.cells #[.int .u8 i.op, .int .u8 i.a, .int .u8 i.b, .int .i32 i.imm] T (0, 0)))
    (hl : l.length + 1 ≤ 20000) (hB : B ≤ w.heap.size)
    (h : ∀ g cap w', rowN w' B (.slice (some ⟨g, 0, none⟩) (l.length + 1) cap) (l ++ [i]) → GrewS w w' v (.slice (some ⟨g, 0, none⟩) (l.length + 1) cap) → wpList Tryz.prog ops Q rest (a.put o.dst (.slice (some ⟨g, 0, none⟩) (l.length + 1) cap)) w') : wpList Tryz.prog ops Q (o :: rest) a w := by
  obtain ⟨i0, hi, hz0, hz1, hz2⟩ := infoS_of ins_info
  obtain ⟨T, hb⟩ := hb
  refine wpList_append_lies w hgd s x 23 ho B 67 i0 _ 4 8 Tryz.underlying23 hi hz0 hz1 hz2 rfl (by decide) v l.length (insC l) hs hown ⟨b, 0, none⟩ 1 c (insC [i]) hx rfl ?_ (by simp [insC, oc_int]) (by omega) (by simp only [maxLen]; omega) (by omega) hB _ rfl ?_
  · have := World.news_of_block hb
    simpa [insC] using this
  · intro g cap w' h1 h2 h3 h4
    refine h g cap w' (by unfold rowN; rw [insC_append, List.length_append]; exact h1) ⟨keeps_grown h2 fun k hk => hk.symm, fun k hk => ?_, fun k hk => ?_⟩
    · simp only [Value.ownBlock, Option.some.injEq] at hk
      subst hk
      rcases h3 with h | h
      · exact .inl h.symm
      · exact .inr (by omega)
    · simp only [Value.ownBlock, Option.some.injEq] at hk; omega
/-- A block, in plain words. -/
structure Bl where
  ins : List In
  at_ : List Int
  next : Nat
  to : Nat
  en : Int
  fr : List Int
  tb : List Int
def blA (b : Bl) (vi va vf vt : Value) : Array Value := #[vi, va, .int .u32 (b.next : Nat), .int .u32 (b.to : Nat), .int .i64 b.en, vf, vt]
/-- A block's rows. -/
structure BlW (w : World) (B : Nat) (vi va vf vt : Value) (b : Bl) : Prop where
  ri : rowN w B vi b.ins
  ra : rowU w B va b.at_
  rf : rowI w B vf b.fr
  rt : rowI w B vt b.tb
  ft : ∀ k, some k = vf.ownBlock → some k ≠ vt.ownBlock
def From (n : Nat) (v v' : Value) : Prop := ∀ k, some k = v'.ownBlock → some k = v.ownBlock ∨ n ≤ k
theorem From.refl (n : Nat) (v : Value) : From n v v := fun _ h => .inl h
def Own4 (vi va vf vt : Value) (k : Nat) : Prop := some k = vi.ownBlock ∨ some k = va.ownBlock ∨ some k = vf.ownBlock ∨ some k = vt.ownBlock
/-- lay under way. -/
structure LayI (w : World) (B : Nat) (vi0 va0 vf0 vt0 : Value) (i : In) (sz : Int) (uf ut up : Value) (f : Fd) (wr : World) (vi va vf vt : Value) (b : Bl) : Prop where
  b2 : wr.heap[w.heap.size]? = some (.cells (blA b vi va vf vt) 40 (0, 0))
  b3 : wr.heap[w.heap.size + 1]? = some (.cells (fdA i sz uf ut up) 69 (0, 0))
  b4 : wr.heap[w.heap.size + 1 + 1]? = some (.cells (blA ⟨[], [], 0, 0, 0, [], []⟩ (.slice none 0 0) (.slice none 0 0) (.slice none 0 0) (.slice none 0 0)) 40 (0, 0))
  rows : BlW wr B vi va vf vt b
  hf : rowI wr 0 uf f.fr
  ht : rowI wr 0 ut f.tb
  ul : ∀ k, some k = uf.ownBlock ∨ some k = ut.ownBlock → k < w.heap.size ∧ some k ≠ vf0.ownBlock ∧ some k ≠ vt0.ownBlock
  o1 : From w.heap.size vi0 vi
  o2 : From w.heap.size va0 va
  o3 : From w.heap.size vf0 vf
  o4 : From w.heap.size vt0 vt
  l1 : ∀ k, some k = vf0.ownBlock ∨ some k = vt0.ownBlock ∨ some k = vi0.ownBlock ∨ some k = va0.ownBlock → k < w.heap.size
  keep : Keeps (Own4 vi0 va0 vf0 vt0) w wr
  hB : B ≤ w.heap.size
theorem From.step {n : Nat} {w w' : World} {v0 v v' : Value} (h : From n v0 v) (g : GrewS w w' v v') (hn : n ≤ w.heap.size) : From n v0 v' := fun k hk => by
  rcases g.fresh k hk with h1 | h1
  · exact h k h1
  · exact .inr (by omega)
section
variable {w : World} {B : Nat} {vi0 va0 vf0 vt0 : Value} {i : In} {sz : Int} {uf ut up : Value} {f : Fd} {wr w' : World} {vi va vf vt : Value} {b : Bl}
theorem LayI.same (h : LayI w B vi0 va0 vf0 vt0 i sz uf ut up f wr vi va vf vt b) (k : Same wr w') : LayI w B vi0 va0 vf0 vt0 i sz uf ut up f w' vi va vf vt b :=
  ⟨k.get h.b2 id, k.get h.b3 id, k.get h.b4 id, ⟨owns_stay h.rows.ri k (fun _ _ => id), owns_stay h.rows.ra k (fun _ _ => id), owns_stay h.rows.rf k (fun _ _ => id), owns_stay h.rows.rt k (fun _ _ => id), h.rows.ft⟩, owns_stay h.hf k (fun _ _ => id), owns_stay h.ht k (fun _ _ => id), h.ul, h.o1, h.o2, h.o3, h.o4, h.l1, h.keep.trans2 k (fun _ _ h => h.elim), h.hB⟩
theorem LayI.size (h : LayI w B vi0 va0 vf0 vt0 i sz uf ut up f wr vi va vf vt b) : w.heap.size + 1 + 1 < wr.heap.size := lt_of_block h.b4
/-- A number is laid in the block. -/
theorem LayI.num (h : LayI w B vi0 va0 vf0 vt0 i sz uf ut up f wr vi va vf vt b) (n : Nat) : LayI w B vi0 va0 vf0 vt0 i sz uf ut up f (wr.setCell ⟨w.heap.size, 2, none⟩ (.int .u32 (n : Nat))) vi va vf vt { b with next := n } := by
  have k : Keeps (fun k => k = w.heap.size) wr (wr.setCell ⟨w.heap.size, 2, none⟩ (.int .u32 (n : Nat))) := Keeps.setCell (F := fun k => k = w.heap.size) (Keeps.refl _ _) (p := ⟨w.heap.size, 2, none⟩) (fun _ => rfl) _
  exact ⟨block_set h.b2 2 _, k.get h.b3 (by omega), k.get h.b4 (by omega), ⟨owns_box h.rows.ri h.b2 (by decide) k, owns_box h.rows.ra h.b2 (by decide) k, owns_box h.rows.rf h.b2 (by decide) k, owns_box h.rows.rt h.b2 (by decide) k, h.rows.ft⟩, owns_box h.hf h.b2 (by decide) k, owns_box h.ht h.b2 (by decide) k, h.ul, h.o1, h.o2, h.o3, h.o4, h.l1, h.keep.trans2 k (fun j hj e => by omega), h.hB⟩
theorem LayI.ins (h : LayI w B vi0 va0 vf0 vt0 i sz uf ut up f wr vi va vf vt b) {v' : Value} {l : List In} (h1 : rowN w' B v' l) (h2 : GrewS wr w' vi v') :
    w'.heap[w.heap.size]? = some (.cells (blA b vi va vf vt) 40 (0, 0)) ∧ LayI w B vi0 va0 vf0 vt0 i sz uf ut up f (w'.setCell ⟨w.heap.size, 0, none⟩ v') v' va vf vt { b with ins := l } := by
  have hs := h.size
  have hn : ∀ j, w.heap.size ≤ j → j < w.heap.size + 1 + 1 + 1 → some j ≠ vi.ownBlock := fun j hj hj2 e => by
    have hc : j = w.heap.size ∨ j = w.heap.size + 1 ∨ j = w.heap.size + 1 + 1 := by omega
    rcases hc with rfl | rfl | rfl
    · exact owns_no h.rows.ri h.b2 (by decide) e
    · exact owns_no h.rows.ri h.b3 (by decide) e
    · exact owns_no h.rows.ri h.b4 (by decide) e
  have hb := h2.keeps.get h.b2 (hn _ (by omega) (by omega))
  have k : Keeps (fun k => k = w.heap.size) w' (w'.setCell ⟨w.heap.size, 0, none⟩ v') := Keeps.setCell (F := fun k => k = w.heap.size) (Keeps.refl _ _) (p := ⟨w.heap.size, 0, none⟩) (fun _ => rfl) _
  refine ⟨hb, ⟨block_set hb 0 v', k.get (h2.keeps.get h.b3 (hn _ (by omega) (by omega))) (by omega), k.get (h2.keeps.get h.b4 (hn _ (by omega) (by omega))) (by omega), ⟨owns_box h1 hb (by decide) k, owns_box (owns_stay h.rows.ra h2.keeps fun g e e' => owns_apart h.rows.ri h.rows.ra (by decide) g e' e) hb (by decide) k, owns_box (owns_stay h.rows.rf h2.keeps fun g e e' => owns_apart h.rows.ri h.rows.rf (by decide) g e' e) hb (by decide) k, owns_box (owns_stay h.rows.rt h2.keeps fun g e e' => owns_apart h.rows.ri h.rows.rt (by decide) g e' e) hb (by decide) k, h.rows.ft⟩, ?_, ?_, h.ul, h.o1.step h2 (by omega), h.o2, h.o3, h.o4, h.l1, (h.keep.trans2 h2.keeps (fun j hj e => ?_)).trans2 k (fun j hj e => by omega), h.hB⟩⟩
  · exact owns_box (owns_stay h.hf h2.keeps fun g e e' => owns_apart h.rows.ri h.hf (by decide) g e' e) hb (by decide) k
  · exact owns_box (owns_stay h.ht h2.keeps fun g e e' => owns_apart h.rows.ri h.ht (by decide) g e' e) hb (by decide) k
  · rcases h.o1 j e with e | e
    · exact .inl e
    · omega
theorem LayI.at (h : LayI w B vi0 va0 vf0 vt0 i sz uf ut up f wr vi va vf vt b) {v' : Value} {l : List Int} (h1 : rowU w' B v' l) (h2 : GrewS wr w' va v') :
    w'.heap[w.heap.size]? = some (.cells (blA b vi va vf vt) 40 (0, 0)) ∧ LayI w B vi0 va0 vf0 vt0 i sz uf ut up f (w'.setCell ⟨w.heap.size, 1, none⟩ v') vi v' vf vt { b with at_ := l } := by
  have hs := h.size
  have hn : ∀ j, w.heap.size ≤ j → j < w.heap.size + 1 + 1 + 1 → some j ≠ va.ownBlock := fun j hj hj2 e => by
    have hc : j = w.heap.size ∨ j = w.heap.size + 1 ∨ j = w.heap.size + 1 + 1 := by omega
    rcases hc with rfl | rfl | rfl
    · exact owns_no h.rows.ra h.b2 (by decide) e
    · exact owns_no h.rows.ra h.b3 (by decide) e
    · exact owns_no h.rows.ra h.b4 (by decide) e
  have hb := h2.keeps.get h.b2 (hn _ (by omega) (by omega))
  have k : Keeps (fun k => k = w.heap.size) w' (w'.setCell ⟨w.heap.size, 1, none⟩ v') := Keeps.setCell (F := fun k => k = w.heap.size) (Keeps.refl _ _) (p := ⟨w.heap.size, 1, none⟩) (fun _ => rfl) _
  refine ⟨hb, ⟨block_set hb 1 v', k.get (h2.keeps.get h.b3 (hn _ (by omega) (by omega))) (by omega), k.get (h2.keeps.get h.b4 (hn _ (by omega) (by omega))) (by omega), ⟨owns_box (owns_stay h.rows.ri h2.keeps fun g e e' => owns_apart h.rows.ra h.rows.ri (by decide) g e' e) hb (by decide) k, owns_box h1 hb (by decide) k, owns_box (owns_stay h.rows.rf h2.keeps fun g e e' => owns_apart h.rows.ra h.rows.rf (by decide) g e' e) hb (by decide) k, owns_box (owns_stay h.rows.rt h2.keeps fun g e e' => owns_apart h.rows.ra h.rows.rt (by decide) g e' e) hb (by decide) k, h.rows.ft⟩, ?_, ?_, h.ul, h.o1, h.o2.step h2 (by omega), h.o3, h.o4, h.l1, (h.keep.trans2 h2.keeps (fun j hj e => ?_)).trans2 k (fun j hj e => by omega), h.hB⟩⟩
  · exact owns_box (owns_stay h.hf h2.keeps fun g e e' => owns_apart h.rows.ra h.hf (by decide) g e' e) hb (by decide) k
  · exact owns_box (owns_stay h.ht h2.keeps fun g e e' => owns_apart h.rows.ra h.ht (by decide) g e' e) hb (by decide) k
  · rcases h.o2 j e with e | e
    · exact .inr (.inl e)
    · omega
theorem LayI.fra (h : LayI w B vi0 va0 vf0 vt0 i sz uf ut up f wr vi va vf vt b) {v' : Value} {l : List Int} (h1 : rowI w' B v' l) (h2 : GrewS wr w' vf v') :
    w'.heap[w.heap.size]? = some (.cells (blA b vi va vf vt) 40 (0, 0)) ∧ LayI w B vi0 va0 vf0 vt0 i sz uf ut up f (w'.setCell ⟨w.heap.size, 5, none⟩ v') vi va v' vt { b with fr := l } := by
  have hs := h.size
  have hn : ∀ j, w.heap.size ≤ j → j < w.heap.size + 1 + 1 + 1 → some j ≠ vf.ownBlock := fun j hj hj2 e => by
    have hc : j = w.heap.size ∨ j = w.heap.size + 1 ∨ j = w.heap.size + 1 + 1 := by omega
    rcases hc with rfl | rfl | rfl
    · exact owns_no h.rows.rf h.b2 (by decide) e
    · exact owns_no h.rows.rf h.b3 (by decide) e
    · exact owns_no h.rows.rf h.b4 (by decide) e
  have hb := h2.keeps.get h.b2 (hn _ (by omega) (by omega))
  have k : Keeps (fun k => k = w.heap.size) w' (w'.setCell ⟨w.heap.size, 5, none⟩ v') := Keeps.setCell (F := fun k => k = w.heap.size) (Keeps.refl _ _) (p := ⟨w.heap.size, 5, none⟩) (fun _ => rfl) _
  refine ⟨hb, ⟨block_set hb 5 v', k.get (h2.keeps.get h.b3 (hn _ (by omega) (by omega))) (by omega), k.get (h2.keeps.get h.b4 (hn _ (by omega) (by omega))) (by omega), ⟨owns_box (owns_stay h.rows.ri h2.keeps fun g e e' => owns_apart h.rows.rf h.rows.ri (by decide) g e' e) hb (by decide) k, owns_box (owns_stay h.rows.ra h2.keeps fun g e e' => owns_apart h.rows.rf h.rows.ra (by decide) g e' e) hb (by decide) k, owns_box h1 hb (by decide) k, owns_box (owns_stay h.rows.rt h2.keeps fun g e e' => h.rows.ft g e' e) hb (by decide) k, fun k e e' => by
    rcases h2.fresh k e with e2 | e2
    · exact h.rows.ft k e2 e'
    · have := (owns_lt h.rows.rt k e').2; omega⟩, ?_, ?_, h.ul, h.o1, h.o2, h.o3.step h2 (by omega), h.o4, h.l1, (h.keep.trans2 h2.keeps (fun j hj e => ?_)).trans2 k (fun j hj e => by omega), h.hB⟩⟩
  · exact owns_box (owns_stay h.hf h2.keeps fun g e e' => by have hu := h.ul g (.inl e); rcases h.o3 g e' with e2 | e2; exact hu.2.1 e2; omega) hb (by decide) k
  · exact owns_box (owns_stay h.ht h2.keeps fun g e e' => by have hu := h.ul g (.inr e); rcases h.o3 g e' with e2 | e2; exact hu.2.1 e2; omega) hb (by decide) k
  · rcases h.o3 j e with e | e
    · exact .inr (.inr (.inl e))
    · omega
theorem LayI.tab (h : LayI w B vi0 va0 vf0 vt0 i sz uf ut up f wr vi va vf vt b) {v' : Value} {l : List Int} (h1 : rowI w' B v' l) (h2 : GrewS wr w' vt v') :
    w'.heap[w.heap.size]? = some (.cells (blA b vi va vf vt) 40 (0, 0)) ∧ LayI w B vi0 va0 vf0 vt0 i sz uf ut up f (w'.setCell ⟨w.heap.size, 6, none⟩ v') vi va vf v' { b with tb := l } := by
  have hs := h.size
  have hn : ∀ j, w.heap.size ≤ j → j < w.heap.size + 1 + 1 + 1 → some j ≠ vt.ownBlock := fun j hj hj2 e => by
    have hc : j = w.heap.size ∨ j = w.heap.size + 1 ∨ j = w.heap.size + 1 + 1 := by omega
    rcases hc with rfl | rfl | rfl
    · exact owns_no h.rows.rt h.b2 (by decide) e
    · exact owns_no h.rows.rt h.b3 (by decide) e
    · exact owns_no h.rows.rt h.b4 (by decide) e
  have hb := h2.keeps.get h.b2 (hn _ (by omega) (by omega))
  have k : Keeps (fun k => k = w.heap.size) w' (w'.setCell ⟨w.heap.size, 6, none⟩ v') := Keeps.setCell (F := fun k => k = w.heap.size) (Keeps.refl _ _) (p := ⟨w.heap.size, 6, none⟩) (fun _ => rfl) _
  refine ⟨hb, ⟨block_set hb 6 v', k.get (h2.keeps.get h.b3 (hn _ (by omega) (by omega))) (by omega), k.get (h2.keeps.get h.b4 (hn _ (by omega) (by omega))) (by omega), ⟨owns_box (owns_stay h.rows.ri h2.keeps fun g e e' => owns_apart h.rows.rt h.rows.ri (by decide) g e' e) hb (by decide) k, owns_box (owns_stay h.rows.ra h2.keeps fun g e e' => owns_apart h.rows.rt h.rows.ra (by decide) g e' e) hb (by decide) k, owns_box (owns_stay h.rows.rf h2.keeps fun g e e' => h.rows.ft g e e') hb (by decide) k, owns_box h1 hb (by decide) k, fun k e e' => by
    rcases h2.fresh k e' with e2 | e2
    · exact h.rows.ft k e e2
    · have := (owns_lt h.rows.rf k e).2; omega⟩, ?_, ?_, h.ul, h.o1, h.o2, h.o3, h.o4.step h2 (by omega), h.l1, (h.keep.trans2 h2.keeps (fun j hj e => ?_)).trans2 k (fun j hj e => by omega), h.hB⟩⟩
  · exact owns_box (owns_stay h.hf h2.keeps fun g e e' => by have hu := h.ul g (.inl e); rcases h.o4 g e' with e2 | e2; exact hu.2.2 e2; omega) hb (by decide) k
  · exact owns_box (owns_stay h.ht h2.keeps fun g e e' => by have hu := h.ul g (.inr e); rcases h.o4 g e' with e2 | e2; exact hu.2.2 e2; omega) hb (by decide) k
  · rcases h.o4 j e with e | e
    · exact .inr (.inr (.inr e))
    · omega
end
end Go.Proofs.YtjkjnomhggmplaaGreat
