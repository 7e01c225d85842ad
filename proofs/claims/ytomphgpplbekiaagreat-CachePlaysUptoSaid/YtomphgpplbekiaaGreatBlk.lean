/- A block that came in: its instructions and places, as cells; which blocks may be. -/
import Derived.Test.YtomphgpplbekiaaGreatMay20
import Derived.Test.YtomphgpplbekiaaGreatMay2
import Derived.Test.YtomphgpplbekiaaGreatRead
import Derived.Test.YtomphgpplbekiaaGreatIsaD
namespace Go.Proofs.YtomphgpplbekiaaGreat
open Go.RowKit

/-- A slice of instructions. -/
def InsSl (w : World) (a : Option Addr) (l : Nat) (X : Nat → In) : Prop := l = 0 ∨ ∃ S o, a = some ⟨S, o, none⟩ ∧ S < w.heap.size ∧
  ∀ k, k < l → (X k).Ok ∧ w.cell? ⟨S, o + k * 4, none⟩ = some (.int .u8 (X k).op) ∧ w.cell? ⟨S, o + k * 4 + 1, none⟩ = some (.int .u8 (X k).a) ∧ w.cell? ⟨S, o + k * 4 + 2, none⟩ = some (.int .u8 (X k).b) ∧ w.cell? ⟨S, o + k * 4 + 3, none⟩ = some (.int .i32 (X k).imm)
/-- A slice of places. -/
def U32Sl (w : World) (a : Option Addr) (l : Nat) (Y : Nat → Int) : Prop := l = 0 ∨ ∃ S o, a = some ⟨S, o, none⟩ ∧ S < w.heap.size ∧
  ∀ k, k < l → 0 ≤ Y k ∧ Y k < 4294967296 ∧ w.cell? ⟨S, o + k, none⟩ = some (.int .u32 (Y k))
theorem cell_keeps {F : Nat → Prop} {w w' : World} {S o : Nat} {v : Value} (hk : Keeps F w w') (hS : S < w.heap.size) (hF : ¬ F S) (h : w.cell? ⟨S, o, none⟩ = some v) : w'.cell? ⟨S, o, none⟩ = some v := by
  rw [← h]
  unfold World.cell?
  rw [hk.block S hS hF]
theorem InsSl.keeps {w w' : World} {a : Option Addr} {l : Nat} {X : Nat → In} (h : InsSl w a l X) (hk : Same w w') : InsSl w' a l X := by
  rcases h with h | ⟨S, o, rfl, hS, h⟩
  · exact .inl h
  · refine .inr ⟨S, o, rfl, Nat.lt_of_lt_of_le hS hk.size, fun k hkl => ?_⟩
    obtain ⟨h0, h1, h2, h3, h4⟩ := h k hkl
    exact ⟨h0, cell_keeps hk hS id h1, cell_keeps hk hS id h2, cell_keeps hk hS id h3, cell_keeps hk hS id h4⟩
theorem U32Sl.keeps {w w' : World} {a : Option Addr} {l : Nat} {Y : Nat → Int} (h : U32Sl w a l Y) (hk : Same w w') : U32Sl w' a l Y := by
  rcases h with h | ⟨S, o, rfl, hS, h⟩
  · exact .inl h
  · refine .inr ⟨S, o, rfl, Nat.lt_of_lt_of_le hS hk.size, fun k hkl => ?_⟩
    obtain ⟨h0, h1, h2⟩ := h k hkl
    exact ⟨h0, h1, cell_keeps hk hS id h2⟩
theorem lt_of_cell {w : World} {a : Addr} {v : Value} (h : w.cell? a = some v) : a.block < w.heap.size := by
  rcases Nat.lt_or_ge a.block w.heap.size with h1 | h1
  · exact h1
  · simp [World.cell?, Array.getElem?_eq_none h1] at h
theorem list4 {α : Type} {l : List α} (h : l.length = 4) : ∃ a b c d, l = [a, b, c, d] := by
  match l, h with
  | [a, b, c, d], _ => exact ⟨a, b, c, d, rfl⟩
theorem list7 {α : Type} {l : List α} (h : l.length = 7) : ∃ a b c d e f g, l = [a, b, c, d, e, f, g] := by
  match l, h with
  | [a, b, c, d, e, f, g], _ => exact ⟨a, b, c, d, e, f, g, rfl⟩
/-- An instruction's cells. -/
theorem ins_open {w : World} {cs : List Value} (h : RdV Tryz.prog w 122 cs) : ∃ i : In, i.Ok ∧ cs = [.int .u8 i.op, .int .u8 i.a, .int .u8 i.b, .int .i32 i.imm] := by
  obtain ⟨h1, h2⟩ := h.struct Tryz.underlying122
  rw [show Tryz.prog.cellsOf 122 = 4 from by kernel_rfl] at h1
  obtain ⟨c0, c1, c2, c3, rfl⟩ := list4 h1
  have k8 : Tryz.prog.cellsOf 5 = 1 := by kernel_rfl
  have k32 : Tryz.prog.cellsOf 21 = 1 := by kernel_rfl
  simp [k8, k32] at h2
  obtain ⟨g0, g1, g2, g3⟩ := h2
  obtain ⟨x0, e0, a0, b0⟩ := g0.int (k := .u8) Tryz.underlying5
  obtain ⟨x1, e1, a1, b1⟩ := g1.int (k := .u8) Tryz.underlying5
  obtain ⟨x2, e2, a2, b2⟩ := g2.int (k := .u8) Tryz.underlying5
  obtain ⟨x3, e3, a3, b3⟩ := g3.int (k := .i32) Tryz.underlying21
  simp at e0 e1 e2 e3
  subst e0 e1 e2 e3
  simp [IntKind.min, IntKind.max, IntKind.bits, IntKind.signed] at a0 b0 a1 b1 a2 b2 a3 b3
  exact ⟨⟨x0, x1, x2, x3⟩, ⟨a0, by simpa using (by omega : x0 < 256), a1, by simpa using (by omega : x1 < 256), a2, by simpa using (by omega : x2 < 256), a3, by simpa using (by omega : x3 ≤ 2147483647)⟩, rfl⟩
theorem insSl_open {w : World} {v : Value} (h : RdV Tryz.prog w 32 [v]) : ∃ a l c X, v = .slice a l c ∧ InsSl w a l X ∧ l ≤ c ∧ c ≤ maxLen := by
  rcases h.slice Tryz.underlying32 with h | ⟨a', l', c', he, h1, h2, h3⟩
  · simp at h
    exact ⟨_, _, _, fun _ => in0, h, .inl rfl, Nat.le_refl _, Nat.zero_le _⟩
  · simp at he
    rw [show Tryz.prog.cellsOf 122 = 4 from by kernel_rfl] at h3
    by_cases hl : l' = 0
    · exact ⟨_, _, _, fun _ => in0, he, .inl hl, h1, h2⟩
    have hx : ∀ i, ∃ x : In, i < l' → a'.spot = none ∧ x.Ok ∧ w.cell? ⟨a'.block, a'.off + i * 4, none⟩ = some (.int .u8 x.op) ∧ w.cell? ⟨a'.block, a'.off + i * 4 + 1, none⟩ = some (.int .u8 x.a) ∧ w.cell? ⟨a'.block, a'.off + i * 4 + 2, none⟩ = some (.int .u8 x.b) ∧ w.cell? ⟨a'.block, a'.off + i * 4 + 3, none⟩ = some (.int .i32 x.imm) := by
      intro i
      by_cases hi : i < l'
      · obtain ⟨es, e1, e2, e3⟩ := h3 i hi
        obtain ⟨x, hx, rfl⟩ := ins_open e3
        refine ⟨x, fun _ => ⟨(e2 0 (by omega)).1, hx, ?_, ?_, ?_, ?_⟩⟩
        · simpa using (e2 0 (by omega)).2
        · simpa [Nat.add_assoc] using (e2 1 (by omega)).2
        · simpa [Nat.add_assoc] using (e2 2 (by omega)).2
        · simpa [Nat.add_assoc] using (e2 3 (by omega)).2
      · exact ⟨in0, fun h => absurd h hi⟩
    obtain ⟨X, hX⟩ := Classical.skolem.1 hx
    refine ⟨_, _, _, X, he, .inr ⟨a'.block, a'.off, ?_, by have h := lt_of_cell (hX 0 (by omega)).2.2.1; exact h, fun i hi => (hX i hi).2⟩, h1, h2⟩
    have := (hX 0 (by omega)).1
    obtain ⟨b, o, s⟩ := a'
    simp only at this; subst this; rfl
theorem u32Sl_open {w : World} {v : Value} (h : RdV Tryz.prog w 33 [v]) : ∃ a l c Y, v = .slice a l c ∧ U32Sl w a l Y ∧ l ≤ c ∧ c ≤ maxLen := by
  rcases h.slice Tryz.underlying33 with h | ⟨a', l', c', he, h1, h2, h3⟩
  · simp at h
    exact ⟨_, _, _, fun _ => 0, h, .inl rfl, Nat.le_refl _, Nat.zero_le _⟩
  · simp at he
    rw [show Tryz.prog.cellsOf 29 = 1 from by kernel_rfl] at h3
    by_cases hl : l' = 0
    · exact ⟨_, _, _, fun _ => 0, he, .inl hl, h1, h2⟩
    have hx : ∀ i, ∃ x : Int, i < l' → a'.spot = none ∧ 0 ≤ x ∧ x < 4294967296 ∧ w.cell? ⟨a'.block, a'.off + i, none⟩ = some (.int .u32 x) := by
      intro i
      by_cases hi : i < l'
      · obtain ⟨es, e1, e2, e3⟩ := h3 i hi
        obtain ⟨x, rfl, p0, p1⟩ := RdV.int (k := .u32) e3 Tryz.underlying29
        simp [IntKind.min, IntKind.max, IntKind.bits, IntKind.signed] at p0 p1
        refine ⟨x, fun _ => ⟨(e2 0 (by omega)).1, p0, by omega, ?_⟩⟩
        simpa using (e2 0 (by omega)).2
      · exact ⟨0, fun h => absurd h hi⟩
    obtain ⟨Y, hY⟩ := Classical.skolem.1 hx
    refine ⟨_, _, _, Y, he, .inr ⟨a'.block, a'.off, ?_, by have h := lt_of_cell (hY 0 (by omega)).2.2.2; exact h, fun i hi => (hY i hi).2⟩, h1, h2⟩
    have := (hY 0 (by omega)).1
    obtain ⟨b, o, s⟩ := a'
    simp only at this; subst this; rfl
/-- A block's value. -/
structure Bk where
  ia : Option Addr
  n : Nat
  cn : Nat
  aa : Option Addr
  m : Nat
  cm : Nat
  next : Int
  to : Int
  fin : Int
  fr : Value
  tb : Value
  X : Nat → In
  Y : Nat → Int
def bkA (b : Bk) : Array Value := #[.slice b.ia b.n b.cn, .slice b.aa b.m b.cm, .int .u32 b.next, .int .u32 b.to, .int .i64 b.fin, b.fr, b.tb]
structure Bk.Ok (w : World) (b : Bk) : Prop where
  ins : InsSl w b.ia b.n b.X
  at_ : U32Sl w b.aa b.m b.Y
  hn : b.n ≤ b.cn
  hcn : b.cn ≤ 9223372036854775807
  hm : b.m ≤ b.cm
  hcm : b.cm ≤ 9223372036854775807
  n0 : 0 ≤ b.next
  n1 : b.next < 4294967296
  t0 : 0 ≤ b.to
  t1 : b.to < 4294967296
  e0 : -9223372036854775808 ≤ b.fin
  e1 : b.fin ≤ 9223372036854775807
theorem Bk.Ok.keeps {w w' : World} {b : Bk} (h : b.Ok w) (hk : Same w w') : b.Ok w' := { h with ins := h.ins.keeps hk, at_ := h.at_.keeps hk }
theorem bk_open {w : World} {s : Array Value} (h : RdV Tryz.prog w 36 s.toList) : ∃ b : Bk, s = bkA b ∧ b.Ok w := by
  obtain ⟨h1, h2⟩ := h.struct Tryz.underlying36
  rw [show Tryz.prog.cellsOf 36 = 7 from by kernel_rfl] at h1
  obtain ⟨l⟩ := s
  simp only at h1 h2 h
  obtain ⟨c0, c1, c2, c3, c4, c5, c6, rfl⟩ := list7 h1
  have k1 : Tryz.prog.cellsOf 32 = 1 := by kernel_rfl
  have k2 : Tryz.prog.cellsOf 33 = 1 := by kernel_rfl
  have k3 : Tryz.prog.cellsOf 29 = 1 := by kernel_rfl
  have k4 : Tryz.prog.cellsOf 3 = 1 := by kernel_rfl
  have k5 : Tryz.prog.cellsOf 34 = 1 := by kernel_rfl
  simp [k1, k2, k3, k4, k5] at h2
  obtain ⟨g0, g1, g2, g3, g4, g5, g6⟩ := h2
  obtain ⟨a, l, c, X, rfl, hX, hl, hc⟩ := insSl_open g0
  obtain ⟨a', l', c', Y, rfl, hY, hl', hc'⟩ := u32Sl_open g1
  obtain ⟨x2, e2, a2, b2⟩ := g2.int (k := .u32) Tryz.underlying29
  obtain ⟨x3, e3, a3, b3⟩ := g3.int (k := .u32) Tryz.underlying29
  obtain ⟨x4, e4, a4, b4⟩ := g4.int (k := .i64) Tryz.underlying3
  simp at e2 e3 e4
  subst e2 e3 e4
  simp [IntKind.min, IntKind.max, IntKind.bits, IntKind.signed] at a2 b2 a3 b3 a4 b4
  unfold maxLen at hc hc'
  exact ⟨⟨a, l, c, a', l', c', x2, x3, x4, c5, c6, X, Y⟩, rfl, ⟨hX, hY, hl, by simpa using (by omega : c ≤ 9223372036854775807), hl', by simpa using (by omega : c' ≤ 9223372036854775807), a2, by simpa using (by omega : x2 < 4294967296), a3, by simpa using (by omega : x3 < 4294967296), a4, b4⟩⟩

/-- Which blocks may be. -/
def stepB (n : Nat) (e : Int) (i : In) (k : Nat) : Bool := mayB i false && (if k + 1 < n then !ending3 i.op else fitsE i.op e (ending3 i.op))
def mayTo (n : Nat) (e : Int) (X : Nat → In) : Nat → Bool
  | 0 => true
  | k + 1 => mayTo n e X k && stepB n e (X k) k
def mayBlk (b : Bk) : Bool := decide (1 ≤ b.n) && decide (b.n ≤ 32) && decide (b.m = b.n) && mayTo b.n b.fin b.X b.n
theorem mayTo_no {n : Nat} {e : Int} {X : Nat → In} {k : Nat} (h : stepB n e (X k) k = false) : ∀ m, k < m → mayTo n e X m = false
  | 0, h0 => by omega
  | m + 1, h0 => by
    rcases Nat.lt_or_ge k m with h1 | h1
    · simp [mayTo, mayTo_no h m h1]
    · obtain rfl : k = m := by omega
      simp [mayTo, h]
/-- The reference's way: the end is asked behind all the others. -/
def stepC (n : Nat) (i : In) (k : Nat) : Bool := mayB i false && (if k + 1 < n then !ending3 i.op else true)
def mayTo2 (n : Nat) (X : Nat → In) : Nat → Bool
  | 0 => true
  | k + 1 => mayTo2 n X k && stepC n (X k) k
theorem mayTo2_eq {n : Nat} {e : Int} {X : Nat → In} (k : Nat) (h : k < n) : mayTo n e X k = mayTo2 n X k := by
  induction k with
  | zero => rfl
  | succ k ih => simp [mayTo, mayTo2, ih (by omega), stepB, stepC, h]
theorem stepC_no {n : Nat} {e : Int} {i : In} {k : Nat} (h : stepC n i k = false) : stepB n e i k = false := by
  unfold stepC at h; unfold stepB
  cases hm : mayB i false
  · rfl
  · rw [hm] at h
    simp only [Bool.true_and] at h ⊢
    by_cases hk : k + 1 < n
    · rw [if_pos hk] at h ⊢; exact h
    · rw [if_neg hk] at h; cases h
theorem mayTo2_no {n : Nat} {e : Int} {X : Nat → In} {k : Nat} (h : stepC n (X k) k = false) (hk : k < n) : mayTo n e X n = false := mayTo_no (stepC_no h) n hk
theorem mayTo_last {j : Nat} {e : Int} {X : Nat → In} (h : mayTo2 (j + 1) X (j + 1) = true) : mayTo (j + 1) e X (j + 1) = fitsE (X j).op e (ending3 (X j).op) := by
  simp only [mayTo2, Bool.and_eq_true] at h
  obtain ⟨h1, h2⟩ := h
  simp only [mayTo, mayTo2_eq j (Nat.lt_succ_self _), h1, Bool.true_and]
  unfold stepC at h2; unfold stepB
  simp at h2 ⊢
  simp [h2]
end Go.Proofs.YtomphgpplbekiaaGreat
