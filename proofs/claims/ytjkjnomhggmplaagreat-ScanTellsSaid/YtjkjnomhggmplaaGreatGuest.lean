/- A guest, as an argument: opened. -/
import Derived.Test.YtjkjnomhggmplaaGreatScanI
import Derived.Test.YtjkjnomhggmplaaGreatBytesOpen
import Derived.Test.YtjkjnomhggmplaaGreatRead
namespace Go.Proofs.YtjkjnomhggmplaaGreat
open Go.RowKit

theorem one_cell {l : List Value} {k : Nat} (h : k < l.length) : ∃ v, (l.drop k).take 1 = [v] := ⟨l[k], by rw [List.drop_eq_getElem_cons h]; rfl⟩
/-- A slice of instructions. -/
def InsSl (w : World) (a : Option Addr) (l : Nat) (X : Nat → In) : Prop := l = 0 ∨ ∃ S o, a = some ⟨S, o, none⟩ ∧ S < w.heap.size ∧
  ∀ k, k < l → (X k).Ok ∧ w.cell? ⟨S, o + k * 4, none⟩ = some (.int .u8 (X k).op) ∧ w.cell? ⟨S, o + k * 4 + 1, none⟩ = some (.int .u8 (X k).a) ∧ w.cell? ⟨S, o + k * 4 + 2, none⟩ = some (.int .u8 (X k).b) ∧ w.cell? ⟨S, o + k * 4 + 3, none⟩ = some (.int .i32 (X k).imm)
theorem cell_keeps {F : Nat → Prop} {w w' : World} {S o : Nat} {v : Value} (hk : Keeps F w w') (hS : S < w.heap.size) (hF : ¬ F S) (h : w.cell? ⟨S, o, none⟩ = some v) : w'.cell? ⟨S, o, none⟩ = some v := by
  rw [← h]
  unfold World.cell?
  rw [hk.block S hS hF]
theorem InsSl.keeps {w w' : World} {a : Option Addr} {l : Nat} {X : Nat → In} (h : InsSl w a l X) (hk : Same w w') : InsSl w' a l X := by
  rcases h with h | ⟨S, o, rfl, hS, h⟩
  · exact .inl h
  · refine .inr ⟨S, o, rfl, Nat.lt_of_lt_of_le hS hk.size, fun k hkl => ?_⟩
    obtain ⟨h0, h1, h2, h3, h4⟩ := h k hkl
    exact ⟨h0, cell_keeps hk hS id h1, cell_keeps hk hS id h2, cell_keeps hk hS id h3, cell_keeps hk hS id h4⟩
theorem lt_of_cell {w : World} {a : Addr} {v : Value} (h : w.cell? a = some v) : a.block < w.heap.size := by
  rcases Nat.lt_or_ge a.block w.heap.size with h1 | h1
  · exact h1
  · simp [World.cell?, Array.getElem?_eq_none h1] at h
theorem list4 {α : Type} {l : List α} (h : l.length = 4) : ∃ a b c d, l = [a, b, c, d] := by
  match l, h with
  | [a, b, c, d], _ => exact ⟨a, b, c, d, rfl⟩
/-- An instruction's cells. -/
theorem ins_open {w : World} {cs : List Value} (h : RdV Tryz.prog w 67 cs) : ∃ i : In, i.Ok ∧ cs = [.int .u8 i.op, .int .u8 i.a, .int .u8 i.b, .int .i32 i.imm] := by
  obtain ⟨h1, h2⟩ := h.struct Tryz.underlying67
  rw [show Tryz.prog.cellsOf 67 = 4 from by kernel_rfl] at h1
  obtain ⟨c0, c1, c2, c3, rfl⟩ := list4 h1
  have k8 : Tryz.prog.cellsOf 5 = 1 := by kernel_rfl
  have k32 : Tryz.prog.cellsOf 21 = 1 := by kernel_rfl
  simp [k8, k32] at h2
  obtain ⟨g0, g1, g2, g3⟩ := h2
  obtain ⟨x0, e0, a0, b0⟩ := g0.int (k := .u8) Tryz.underlying5
  obtain ⟨x1, e1, a1, b1⟩ := g1.int (k := .u8) Tryz.underlying5
  obtain ⟨x2, e2, a2, b2⟩ := g2.int (k := .u8) Tryz.underlying5
  obtain ⟨x3, e3, a3, b3⟩ := g3.int (k := .i32) Tryz.underlying21
  simp at e0 e1 e2 e3
  subst e0 e1 e2 e3
  simp [IntKind.min, IntKind.max, IntKind.bits, IntKind.signed] at a0 b0 a1 b1 a2 b2 a3 b3
  exact ⟨⟨x0, x1, x2, x3⟩, ⟨a0, by simpa using (by omega : x0 < 256), a1, by simpa using (by omega : x1 < 256), a2, by simpa using (by omega : x2 < 256), a3, by simpa using (by omega : x3 ≤ 2147483647)⟩, rfl⟩
theorem insSl_open {w : World} {v : Value} (h : RdV Tryz.prog w 23 [v]) : ∃ a l c X, v = .slice a l c ∧ InsSl w a l X ∧ l ≤ c ∧ c ≤ maxLen := by
  rcases h.slice Tryz.underlying23 with h | ⟨a', l', c', he, h1, h2, h3⟩
  · simp at h
    exact ⟨_, _, _, fun _ => in0, h, .inl rfl, Nat.le_refl _, Nat.zero_le _⟩
  · simp at he
    rw [show Tryz.prog.cellsOf 67 = 4 from by kernel_rfl] at h3
    by_cases hl : l' = 0
    · exact ⟨_, _, _, fun _ => in0, he, .inl hl, h1, h2⟩
    have hx : ∀ i, ∃ x : In, i < l' → a'.spot = none ∧ x.Ok ∧ w.cell? ⟨a'.block, a'.off + i * 4, none⟩ = some (.int .u8 x.op) ∧ w.cell? ⟨a'.block, a'.off + i * 4 + 1, none⟩ = some (.int .u8 x.a) ∧ w.cell? ⟨a'.block, a'.off + i * 4 + 2, none⟩ = some (.int .u8 x.b) ∧ w.cell? ⟨a'.block, a'.off + i * 4 + 3, none⟩ = some (.int .i32 x.imm) := by
      intro i
      by_cases hi : i < l'
      · obtain ⟨es, e1, e2, e3⟩ := h3 i hi
        obtain ⟨x, hx, rfl⟩ := ins_open e3
        refine ⟨x, fun _ => ⟨(e2 0 (by omega)).1, hx, ?_, ?_, ?_, ?_⟩⟩
        · simpa using (e2 0 (by omega)).2
        · simpa [Nat.add_assoc] using (e2 1 (by omega)).2
        · simpa [Nat.add_assoc] using (e2 2 (by omega)).2
        · simpa [Nat.add_assoc] using (e2 3 (by omega)).2
      · exact ⟨in0, fun h => absurd h hi⟩
    obtain ⟨X, hX⟩ := Classical.skolem.1 hx
    refine ⟨_, _, _, X, he, .inr ⟨a'.block, a'.off, ?_, by have h := lt_of_cell (hX 0 (by omega)).2.2.1; exact h, fun i hi => (hX i hi).2⟩, h1, h2⟩
    have := (hX 0 (by omega)).1
    obtain ⟨b, o, s⟩ := a'
    simp only at this; subst this; rfl
theorem u32_open {w : World} {cs : List Value} (h : RdV Tryz.prog w 25 cs) : ∃ x : Nat, cs = [.int .u32 (x : Nat)] ∧ x < 4294967296 := by
  obtain ⟨x, rfl, a0, b0⟩ := h.int (k := .u32) Tryz.underlying25
  simp [IntKind.min, IntKind.max, IntKind.bits, IntKind.signed] at a0 b0
  exact ⟨x.toNat, by rw [Int.toNat_of_nonneg a0], by omega⟩
theorem get_take {cs : List Value} {k : Nat} {v : Value} (h : (cs.drop k).take 1 = [v]) : cs[k]? = some v := by
  have := congrArg (fun l => l[0]?) h
  simpa [List.getElem?_take, List.getElem?_drop] using this
theorem u32s_open {w : World} {cs : List Value} {n : Nat} (h : RdV Tryz.prog w 26 ((cs.drop n).take 8)) : ∀ i, i < 8 → ∃ x : Nat, cs[n + i]? = some (.int .u32 (x : Nat)) ∧ x < 4294967296 := by
  obtain ⟨-, h2⟩ := h.array Tryz.underlying26
  intro i hi
  have h3 := h2 i hi
  rw [show Tryz.prog.cellsOf 25 = 1 from by kernel_rfl] at h3
  obtain ⟨x, e, hx⟩ := u32_open h3
  refine ⟨x, ?_, hx⟩
  have := congrArg (fun l => l[0]?) e
  simpa [List.getElem?_take, List.getElem?_drop, hi] using this
theorem state_open {w : World} {S : Array Value} (h : RdV Tryz.prog w 28 S.toList) : ∃ root ps pc, StV S root ps pc := by
  obtain ⟨h1, h2⟩ := h.struct Tryz.underlying28
  rw [show Tryz.prog.cellsOf 28 = 19 from by kernel_rfl] at h1
  have k1 : Tryz.prog.cellsOf 26 = 8 := by kernel_rfl
  have k2 : Tryz.prog.cellsOf 25 = 1 := by kernel_rfl
  have k3 : Tryz.prog.cellsOf 4 = 1 := by kernel_rfl
  obtain ⟨l⟩ := S
  simp only at h1 h2
  simp only [List.forall_mem_cons, List.not_mem_nil, false_implies, implies_true, and_true, k1, k2, k3] at h2
  obtain ⟨gR, gP, gS, gC, gH⟩ := h2
  obtain ⟨pc, epc, hpc⟩ := u32_open gP
  obtain ⟨ps, eps, hps⟩ := u32_open gS
  obtain ⟨bl, ebl⟩ := gH.bool Tryz.underlying4
  have hR := u32s_open (n := 0) gR
  have hC := u32s_open (n := 10) gC
  obtain ⟨root, er, hr⟩ := hC 0 (by omega)
  refine ⟨root, ps, pc, ⟨by simpa using h1, ?_, by simpa using get_take epc, by simpa using get_take eps, by simpa using er, hr, hps, hpc⟩⟩
  unfold Ones
  rw [Array.all_eq_true]
  intro i hi
  simp only [List.size_toArray] at hi
  have hv : ∃ v : Value, l[i]? = some v ∧ v.oneCell' = true := by
    rcases (show i < 8 ∨ i = 8 ∨ i = 9 ∨ (10 ≤ i ∧ i < 18) ∨ i = 18 by omega) with h | rfl | rfl | h | rfl
    · obtain ⟨x, e, -⟩ := hR i h
      exact ⟨_, by simpa using e, rfl⟩
    · exact ⟨_, get_take epc, rfl⟩
    · exact ⟨_, get_take eps, rfl⟩
    · obtain ⟨x, e, -⟩ := hC (i - 10) (by omega)
      rw [show 10 + (i - 10) = i by omega] at e
      exact ⟨_, e, rfl⟩
    · exact ⟨_, get_take ebl, rfl⟩
  obtain ⟨v, e, h1⟩ := hv
  rw [List.getElem?_eq_getElem hi] at e
  simp only [Option.some.injEq] at e
  simp only [List.getElem_toArray]
  rw [e]; exact h1
/-- A guest that came in. -/
structure GuestOk (w : World) (G : Array Value) (fr : Int) (ia : Option Addr) (il ic : Nat) (X : Nat → Int) (ca : Option Addr) (cl cc : Nat) (Y : Nat → In) (en : Nat) (root ps pc : Nat) : Prop where
  size : G.size = 25
  g0 : G[0]? = some (.int .i64 fr)
  f0 : -9223372036854775808 ≤ fr
  f1 : fr ≤ 9223372036854775807
  g1 : G[1]? = some (.slice ia il ic)
  hX : BySl w ia il X
  i1 : il ≤ ic
  i2 : ic ≤ maxLen
  g2 : G[2]? = some (.slice ca cl cc)
  hY : InsSl w ca cl Y
  c1 : cl ≤ cc
  c2 : cc ≤ maxLen
  g3 : G[3]? = some (.int .u16 (en : Nat))
  he : en < 65536
  st : StV (G.extract 4 23) root ps pc
theorem BySl.same {w w' : World} {a : Option Addr} {l : Nat} {X : Nat → Int} (h : BySl w a l X) (k : Same w w') : BySl w' a l X := by
  rcases h with h | ⟨S, o, rfl, hS, hb⟩
  · exact .inl h
  · exact .inr ⟨S, o, rfl, Nat.lt_of_lt_of_le hS k.size, hb.keeps k id⟩
theorem GuestOk.same {w w' : World} {G : Array Value} {fr : Int} {ia : Option Addr} {il ic : Nat} {X : Nat → Int} {ca : Option Addr} {cl cc : Nat} {Y : Nat → In} {en root ps pc : Nat} (h : GuestOk w G fr ia il ic X ca cl cc Y en root ps pc) (k : Same w w') : GuestOk w' G fr ia il ic X ca cl cc Y en root ps pc :=
  ⟨h.size, h.g0, h.f0, h.f1, h.g1, h.hX.same k, h.i1, h.i2, h.g2, h.hY.keeps k, h.c1, h.c2, h.g3, h.he, h.st⟩
theorem guest_open {w : World} {G : Array Value} (h : RdV Tryz.prog w 31 G.toList) : ∃ fr ia il ic X ca cl cc Y en root ps pc, GuestOk w G fr ia il ic X ca cl cc Y en root ps pc := by
  obtain ⟨h1, h2⟩ := h.struct Tryz.underlying31
  rw [show Tryz.prog.cellsOf 31 = 25 from by kernel_rfl] at h1
  have k1 : Tryz.prog.cellsOf 3 = 1 := by kernel_rfl
  have k2 : Tryz.prog.cellsOf 22 = 1 := by kernel_rfl
  have k3 : Tryz.prog.cellsOf 23 = 1 := by kernel_rfl
  have k4 : Tryz.prog.cellsOf 24 = 1 := by kernel_rfl
  have k5 : Tryz.prog.cellsOf 28 = 19 := by kernel_rfl
  have k6 : Tryz.prog.cellsOf 29 = 1 := by kernel_rfl
  obtain ⟨l⟩ := G
  simp only at h1 h2
  simp only [List.forall_mem_cons, List.not_mem_nil, false_implies, implies_true, and_true, k1, k2, k3, k4, k5, k6] at h2
  obtain ⟨q0, q1, q2, q3, q4, -, -⟩ := h2
  obtain ⟨fr, e0, a0, b0⟩ := q0.int (k := .i64) Tryz.underlying3
  obtain ⟨en, e3, a3, b3⟩ := q3.int (k := .u16) Tryz.underlying24
  simp [IntKind.min, IntKind.max, IntKind.bits, IntKind.signed] at a0 b0 a3 b3
  obtain ⟨v2, hv2⟩ : ∃ v, (l.drop 2).take 1 = [v] := one_cell (by omega)
  obtain ⟨v1, hv1⟩ : ∃ v, (l.drop 1).take 1 = [v] := one_cell (by omega)
  rw [hv2] at q2
  obtain ⟨ca, cl, cc, Y, rfl, hY, hc1, hc2⟩ := insSl_open q2
  rw [hv1] at q1
  obtain ⟨ia, il, ic, rfl⟩ : ∃ a l c, v1 = .slice a l c := by
    rcases q1.slice Tryz.underlying22 with h | ⟨a, l, c, h, -⟩
    · simp at h; exact ⟨_, _, _, h⟩
    · simp at h; exact ⟨_, _, _, h⟩
  obtain ⟨X, hX, hi1, hi2⟩ := bytes_open q1
  obtain ⟨root, ps, pc, hS⟩ := state_open (S := (⟨l⟩ : Array Value).extract 4 23) (by simpa using q4)
  refine ⟨fr, ia, il, ic, X, ca, cl, cc, Y, en.toNat, root, ps, pc, by simpa using h1, by simpa using get_take e0, a0, b0, by simpa using get_take hv1, hX, hi1, hi2, by simpa using get_take hv2, hY, hc1, hc2, ?_, by omega, hS⟩
  have := get_take e3
  rw [Int.toNat_of_nonneg a3]
  simpa using this
end Go.Proofs.YtjkjnomhggmplaaGreat
