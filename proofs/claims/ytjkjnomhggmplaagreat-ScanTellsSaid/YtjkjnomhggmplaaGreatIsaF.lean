/- Package isa: rows of bytes; what an encoding is, in plain words (without the walk of isa.Encode). -/
import Derived.Test.YtjkjnomhggmplaaGreatIsaD
namespace Go.Proofs.YtjkjnomhggmplaaGreat
open Go.RowKit

/-- A row of bytes of the call's own. -/
def RowB (w : World) (B : Nat) (v : Value) (xs : List Int) : Prop := w.ownsRow B 5 1 v xs.length (xs.map (Value.int .u8))
theorem owns_mono {w : World} {B B' e s n : Nat} {v : Value} {xs : List Value} (h : w.ownsRow B e s v n xs) (hB : B' ≤ B) : w.ownsRow B' e s v n xs := by
  obtain ⟨h1, h2⟩ := h
  refine ⟨h1, ?_⟩
  rcases h2 with h2 | ⟨g, cap, cur, hv, hg, r⟩
  · exact .inl h2
  · exact .inr ⟨g, cap, cur, hv, by omega, r⟩
theorem byte_info : (Tryz.prog.info? 5).map (fun i => (i.zero, i.size, i.bytes)) = some (some (.int .u8 0), 1, 1) := by kernel_rfl
theorem block_at {w : World} (o : Obj) {n : Nat} (h : w.heap.size = n) : (w.alloc o).heap[n]? = some o := by
  subst h
  exact block_new w o
theorem or_pack (a b : Int) (a0 : 0 ≤ a) (a1 : a ≤ 7) (b0 : 0 ≤ b) (b1 : b ≤ 7) : bits .or .u8 (a * 16) b = a * 16 + b := by
  rw [Go.u8_or (a * 16) b (by omega) (by omega) (by omega) (by omega), nat_join 4 (a * 16).toNat b.toNat (by omega) (by omega)]
  omega
/-- One byte more behind a row of the call's own. -/
theorem append_byte {ops : Array Oper} {rest : List Oper} {o : Oper} {a : Act} {w : World} {Q : Exit → Act → World → Prop} (hgd : o.guard = none) (s x : Operand)
    (ho : o.op = .call { callee := .builtin .append, args := #[s, x], argTypes := #[22, 22] })
    (B : Nat) (v : Value) (xs : List Int) (hs : a.eval s = v) (b : Nat) (y : Int) (hx : a.eval x = .slice (some ⟨b, 0, none⟩) 1 1) (hown : RowB w B v xs)
    (hb : w.heap[b]? = some (.cells #[.int .u8 y] 5 (0, 0))) (hl : xs.length ≤ 10000) (hB : B ≤ w.heap.size)
    (h : ∀ v' w', RowB w' B v' (xs ++ [y]) → Keeps (fun k => B ≤ k ∧ some k = v.ownBlock) w w' → wpList Tryz.prog ops Q rest (a.put o.dst v') w') : wpList Tryz.prog ops Q (o :: rest) a w := by
  obtain ⟨i0, hi, hz0, hz1, hz2⟩ : ∃ i, Tryz.prog.info? 5 = some i ∧ i.zero = some (.int .u8 0) ∧ i.size = 1 ∧ i.bytes = 1 := by
    have hb := byte_info
    revert hb
    cases Tryz.prog.info? 5 with
    | none => intro h; cases h
    | some i => intro h; simp only [Option.map_some, Option.some.injEq, Prod.mk.injEq] at h; exact ⟨i, rfl, h.1, h.2.1, h.2.2⟩
  refine wpList_append_own w hgd s x 22 ho B 5 i0 _ 1 1 Tryz.underlying22 hi hz0 hz1 hz2 rfl (by decide) v xs.length (xs.map (Value.int .u8)) hs hown ⟨b, 0, none⟩ 1 1 [.int .u8 y] hx rfl ?_ ?_ ?_ ?_ hB ?_
  · intro j u hj
    match j, hj with
    | 0, hj =>
      simp at hj
      subst hj
      simpa [Addr.add] using cell_of hb 0
  · intro u hu
    simp at hu
    subst hu
    rfl
  · simp only [maxLen]; omega
  · omega
  · intro v' w' hv hg _
    refine h v' w' ?_ (keeps_grown hg fun k hk => ⟨(World.ownsRow.lt hown k hk).1, hk.symm⟩)
    unfold RowB
    simpa using hv
/-- An instruction's bytes. -/
def immL (n : Int) : Nat → List Int
  | 0 => []
  | k + 1 => immL n k ++ [n / 256 ^ k % 256]
def headL (i : In) (f : Fm) : List Int := i.op :: if f.a = 1 then [i.a * 16 + i.b] else []
def encL (i : In) (h : Bool) : List Int := headL i (formL i.op h) ++ immL i.imm (formL i.op h).m.toNat
def EncPost (w : World) (i : In) (h : Bool) (e : Ending) (w' : World) : Prop :=
  ∃ v, e = .returned (.tuple #[v, .int .i64 0]) ∧ RowB w' w.heap.size v (encL i h) ∧ Same w w'

def EncRel (w : World) (i : In) (f : Fm) (S B : Nat) (k : Nat) (v : Value) (wr : World) : Prop :=
  RowB wr B v (headL i f ++ immL i.imm k) ∧ Same w wr ∧ B ≤ wr.heap.size ∧ wr.heap[w.heap.size]? = some (.cells (inA i) 67 (0, 0)) ∧ wr.heap[S]? = some (.cells (fmA f) 189 (0, 0))
theorem head_len (i : In) (f : Fm) (k : Nat) (hk : k ≤ 4) : (headL i f ++ immL i.imm k).length ≤ 10000 := by
  have : ∀ k, (immL i.imm k).length = k := fun k => by induction k with
    | zero => rfl
    | succ k ih => simp [immL, ih]
  rw [List.length_append, this]
  unfold headL
  split <;> simp <;> omega
theorem encRel_next {w w' wr : World} {i : In} {f : Fm} {S B k : Nat} {v v' : Value} {x : Int} {o : Obj} (h : EncRel w i f S B k v wr) (hS : S < B) (hB : w.heap.size < B) (hx : x = i.imm / 256 ^ k % 256)
    (hv : RowB w' B v' ((headL i f ++ immL i.imm k) ++ [x])) (hk : Keeps (fun k => B ≤ k ∧ some k = v.ownBlock) (wr.alloc o) w') : EncRel w i f S B (k + 1) v' w' := by
  obtain ⟨-, h2, h3, h4, h5⟩ := h
  subst hx
  refine ⟨by rw [List.append_assoc] at hv; exact hv, same_then (h2.alloc o) hk (fun k h => by omega), ?_, hk.get (block_old o h4) (by omega), hk.get (block_old o h5) (by omega)⟩
  have := hk.size
  simp at this
  omega

end Go.Proofs.YtjkjnomhggmplaaGreat
