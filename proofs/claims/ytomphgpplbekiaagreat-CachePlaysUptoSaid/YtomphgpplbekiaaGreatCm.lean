/- What lies in a cache: its blocks in plain words, and as blocks of the memory. What a cache's lists say, in plain words: which block is found. -/
import Derived.Test.YtomphgpplbekiaaGreatRowX
import Derived.Test.YtomphgpplbekiaaGreatMapK
import Derived.Test.YtomphgpplbekiaaGreatRamL
import Derived.Test.YtomphgpplbekiaaGreatTrans
namespace Go.Proofs.YtomphgpplbekiaaGreat
open Go.RowKit

/-- A laid block, in plain words. -/
structure Fp where
  k1 : Int
  k2 : Int
  pos : Int
  bs : List Int
  rs : List Rw
  fin : Int
  frs : List Int
  live : Bool
/-- Where its bytes, rows and frames lie. -/
structure Fv where
  bv : Value
  rv : Value
  fv : Value
abbrev Fb := Fp × Fv
/-- The cells of a laid block; those of the document's. -/
def fbP (x : Fb) : List Value := [.int .u32 x.1.k1, .int .u32 x.1.k2, .int .i64 x.1.pos, x.2.bv, x.2.rv, .int .i64 x.1.fin, x.2.fv, .bool (!x.1.live)]
def fbR (x : Fb) : List Value := [.int .u32 x.1.k1, .int .u32 x.1.k2, .int .i64 x.1.pos, x.2.bv, x.2.rv, x.2.fv, .int .i64 x.1.fin, .bool x.1.live]
def exL (rs : List Rw) : List Rw := rs.filter (fun r => decide (0 ≤ r.ex))
def exN (rs : List Rw) : Nat := (exL rs).length
def ownL (L : List Fp) : List Int := L.zipIdx.flatMap fun p => List.replicate (exN p.1.rs) (p.2 : Int)
def liveL (L : List Fp) : List ((Int × Int) × Int) := (L.zipIdx.filter fun p => p.1.live).map fun p => ((p.1.k1, p.1.k2), (p.2 : Int))
def usedL (L : List Fp) : Nat := (L.map (·.bs.length)).sum
theorem ownL_push (L : List Fp) (f : Fp) : ownL (L ++ [f]) = ownL L ++ List.replicate (exN f.rs) (L.length : Int) := by
  simp [ownL, List.zipIdx_append]
theorem liveL_push (L : List Fp) (f : Fp) (h : f.live = true) : liveL (L ++ [f]) = liveL L ++ [((f.k1, f.k2), (L.length : Int))] := by
  simp [liveL, List.zipIdx_append, h]
theorem usedL_push (L : List Fp) (f : Fp) : usedL (L ++ [f]) = usedL L + f.bs.length := by simp [usedL]
theorem ownL_len (L : List Fp) : (ownL L).length = (L.map fun f => exN f.rs).sum := by
  have h : ∀ (L : List Fp) (n : Nat), ((L.zipIdx n).flatMap fun p => List.replicate (exN p.1.rs) (p.2 : Int)).length = (L.map fun f => exN f.rs).sum := by
    intro L
    induction L with
    | nil => intro n; rfl
    | cons f L ih => intro n; simp only [List.zipIdx_cons, List.flatMap_cons, List.length_append, List.length_replicate, ih, List.map_cons, List.sum_cons]
  exact h L 0
/-- A slice of ints, wherever it lies. -/
def IntSl (w : World) (v : Value) (xs : List Int) : Prop := ∃ a c, v = .slice a xs.length c ∧ xs.length ≤ c ∧ c ≤ maxLen ∧ (xs = [] ∨ ∃ S o, a = some ⟨S, o, none⟩ ∧ S < w.heap.size ∧ ∀ j x, xs[j]? = some x → w.cell? ⟨S, o + j, none⟩ = some (.int .i64 x))
theorem IntSl.keeps {F : Nat → Prop} {w w' : World} {v : Value} {xs : List Int} (h : IntSl w v xs) (k : Keeps F w w') (hF : ∀ g, some g = v.ownBlock → ¬ F g) : IntSl w' v xs := by
  obtain ⟨a, c, rfl, h1, h2, h3⟩ := h
  refine ⟨a, c, rfl, h1, h2, ?_⟩
  rcases h3 with h3 | ⟨S, o, rfl, hS, h3⟩
  · exact .inl h3
  · exact .inr ⟨S, o, rfl, Nat.lt_of_lt_of_le hS k.size, fun j x hx => cell_keeps k hS (hF S rfl) (h3 j x hx)⟩
theorem IntSl.keeps2 {F : Nat → Prop} {w w' : World} {v : Value} {xs : List Int} (h : IntSl w v xs) (k : Keeps F w w') (hF : xs ≠ [] → ∀ g, some g = v.ownBlock → ¬ F g) : IntSl w' v xs := by
  obtain ⟨a, c, rfl, h1, h2, h3⟩ := h
  refine ⟨a, c, rfl, h1, h2, ?_⟩
  rcases h3 with h3 | ⟨S, o, rfl, hS, h3⟩
  · exact .inl h3
  · by_cases hx : xs = []
    · exact .inl hx
    · exact .inr ⟨S, o, rfl, Nat.lt_of_lt_of_le hS k.size, fun j x hj => cell_keeps k hS (hF hx S rfl) (h3 j x hj)⟩
theorem IntSl.lt {w : World} {v : Value} {xs : List Int} (h : IntSl w v xs) (hx : xs ≠ []) : ∀ g, some g = v.ownBlock → g < w.heap.size := fun g hg => by
  obtain ⟨a, c, rfl, h1, h2, h3⟩ := h
  rcases h3 with h3 | ⟨S, o, rfl, hS, h3⟩
  · exact absurd h3 hx
  · obtain rfl : g = S := Option.some.inj hg
    exact hS
theorem intSl_open {w : World} {v : Value} (h : RdV Tryz.prog w 34 [v]) : ∃ xs, IntSl w v xs ∧ (∀ x ∈ xs, -9223372036854775808 ≤ x ∧ x ≤ 9223372036854775807) := by
  rcases h.slice Tryz.underlying34 with h | ⟨a', l', c', he, h1, h2, h3⟩
  · simp at h
    subst h
    exact ⟨[], ⟨_, _, rfl, Nat.le_refl _, Nat.zero_le _, .inl rfl⟩, by simp⟩
  · simp at he
    subst he
    rw [show Tryz.prog.cellsOf 3 = 1 from by kernel_rfl] at h3
    have hx : ∀ i, ∃ x : Int, i < l' → a'.spot = none ∧ (-9223372036854775808 ≤ x ∧ x ≤ 9223372036854775807) ∧ w.cell? ⟨a'.block, a'.off + i, none⟩ = some (.int .i64 x) := by
      intro i
      by_cases hi : i < l'
      · obtain ⟨es, e1, e2, e3⟩ := h3 i hi
        obtain ⟨x, rfl, p0, p1⟩ := RdV.int (k := .i64) e3 Tryz.underlying3
        simp [IntKind.min, IntKind.max, IntKind.bits, IntKind.signed] at p0 p1
        refine ⟨x, fun _ => ⟨(e2 0 (by omega)).1, ⟨by omega, by omega⟩, ?_⟩⟩
        simpa using (e2 0 (by omega)).2
      · exact ⟨0, fun h => absurd h hi⟩
    obtain ⟨Y, hY⟩ := Classical.skolem.1 hx
    refine ⟨(List.range l').map Y, ⟨some a', c', by simp, by simpa using h1, h2, ?_⟩, ?_⟩
    · by_cases hl : l' = 0
      · exact .inl (by simp [hl])
      · refine .inr ⟨a'.block, a'.off, ?_, by have h := lt_of_cell (hY 0 (by omega)).2.2; exact h, fun j x hj => ?_⟩
        · have := (hY 0 (by omega)).1
          obtain ⟨b, o, s⟩ := a'
          simp only at this; subst this; rfl
        · have hjl : j < l' := by
            have := (List.getElem?_eq_some_iff.1 hj).1
            simpa using this
          rw [List.getElem?_map, List.getElem?_range hjl] at hj
          simp at hj
          subst hj
          exact (hY j hjl).2.2
    · intro x hx
      obtain ⟨j, hj, rfl⟩ := List.mem_map.1 hx
      exact (hY j (by simpa using hj)).2.1
/-- What is only read of a laid block. -/
def ROk (x : Fb) (k : Nat) : Prop := some k = x.2.bv.ownBlock ∨ some k = x.2.rv.ownBlock ∨ (x.1.frs ≠ [] ∧ some k = x.2.fv.ownBlock)
structure FbOk (w : World) (x : Fb) : Prop where
  b : ∃ B, RowB w B x.2.bv x.1.bs
  r : ∃ B, RowR w B x.2.rv x.1.rs
  f : IntSl w x.2.fv x.1.frs
  lt : ∀ k, ROk x k → k < w.heap.size
theorem FbOk.keeps {F : Nat → Prop} {w w' : World} {x : Fb} (h : FbOk w x) (k : Keeps F w w') (hF : ∀ g, ROk x g → ¬ F g) : FbOk w' x :=
  ⟨h.b.elim fun B hb => ⟨B, owns_apart hb k fun g hg => hF g (.inl hg)⟩, h.r.elim fun B hb => ⟨B, owns_apart hb k fun g hg => hF g (.inr (.inl hg))⟩, h.f.keeps2 k fun hx g hg => hF g (.inr (.inr ⟨hx, hg⟩)), fun g hg => Nat.lt_of_lt_of_le (h.lt g hg) k.size⟩
/-- Where a cache's own rows lie. -/
structure CV where
  bl : Value
  ow : Value
  mb : Nat
def RowI (w : World) (B : Nat) (v : Value) (xs : List Int) : Prop := w.ownsRow B 3 1 v xs.length (xs.map (Value.int .i64))
/-- What a cache's functions write. -/
def Wr (cb : Nat) (R : RamAt) (V : CV) (k : Nat) : Prop := k = cb ∨ some k = V.bl.ownBlock ∨ some k = V.ow.ownBlock ∨ k = V.mb ∨ k = R.A
def pl (l : List Fb) : List Fp := l.map (·.1)
def cacheA (R : RamAt) (V : CV) (l : List Fb) (hi mi : Int) : Array Value := #[.pointer (some ⟨R.b, 0, none⟩), V.bl, .map (some V.mb), V.ow, .int .i64 (usedL (pl l) : Nat), .int .i64 hi, .int .i64 mi]
structure IsCache (w : World) (N cb : Nat) (R : RamAt) (M : List Int) (V : CV) (l : List Fb) (hi mi : Int) : Prop where
  hb : w.heap[cb]? = some (.cells (cacheA R V l hi mi) 100 (0, 0))
  ram : IsRam w R M
  bl : RowX w N 112 8 V.bl (l.map fbP)
  ow : RowI w N V.ow (ownL (pl l))
  mp : MapL w V.mb (liveL (pl l))
  fb : ∀ x ∈ l, FbOk w x
  ro : ∀ x ∈ l, ∀ k, ROk x k → ¬ Wr cb R V k
  far : ∀ k, Wr cb R V k → N ≤ k
section
variable {w w' : World} {N cb : Nat} {R : RamAt} {M : List Int} {V : CV} {l : List Fb} {hi mi : Int}
theorem rowI_sl {w : World} {B : Nat} {v : Value} {xs : List Int} (h : RowI w B v xs) : ∃ p c, v = .slice p xs.length c := by
  obtain ⟨-, ⟨rfl, h0⟩ | ⟨g, cap, cur, rfl, -⟩⟩ := h
  · exact ⟨none, 0, by rw [h0]⟩
  · exact ⟨_, _, rfl⟩
theorem rowI_at {w : World} {B : Nat} {v : Value} {xs : List Int} (h : RowI w B v xs) {j : Nat} {x : Int} (hj : xs[j]? = some x) : ∃ g cap, v = .slice (some ⟨g, 0, none⟩) xs.length cap ∧ xs.length ≤ cap ∧ cap ≤ maxLen ∧ w.cell? ⟨g, j, none⟩ = some (.int .i64 x) := by
  have hlt : j < xs.length := (List.getElem?_eq_some_iff.1 hj).1
  obtain ⟨h1, h2⟩ := h
  rcases h2 with ⟨-, h0⟩ | ⟨g, cap, cur, rfl, hB, hg, hc1, hc2, hc3, hc4⟩
  · omega
  · refine ⟨g, cap, rfl, hc1, hc2, ?_⟩
    rw [cell_of hg]
    have := congrArg (fun l => l[j]?) hc4
    simp only [List.getElem?_take, List.getElem?_map] at this
    rw [if_pos (by omega), hj] at this
    simpa using this
theorem rowI_lt {w : World} {B : Nat} {v : Value} {xs : List Int} (h : RowI w B v xs) : ∀ k, some k = v.ownBlock → B ≤ k ∧ k < w.heap.size := fun k hk => by
  obtain ⟨-, ⟨rfl, h0⟩ | ⟨g, cap, cur, rfl, hB, hg, -⟩⟩ := h
  · cases hk
  · simp only [Value.ownBlock, Option.some.injEq] at hk
    subst hk
    exact ⟨hB, lt_of_block hg⟩
theorem IsCache.lt (h : IsCache w N cb R M V l hi mi) : ∀ k, Wr cb R V k → k < w.heap.size := fun k hk => by
  rcases hk with rfl | hk | hk | rfl | rfl
  · exact lt_of_block h.hb
  · exact (h.bl.lt k hk).2
  · exact (rowI_lt h.ow k hk).2
  · obtain ⟨es, c, hm, -⟩ := h.mp
    exact lt_of_block hm
  · exact lt_of_block h.ram.hA
/-- What keeps all that a cache is made of, keeps the cache. -/
theorem IsCache.keeps {F : Nat → Prop} (h : IsCache w N cb R M V l hi mi) (k : Keeps F w w') (h1 : ∀ k, Wr cb R V k → ¬ F k) (h2 : ¬ F R.b) (h3 : ¬ F R.S) (h4 : ∀ x ∈ l, ∀ k, ROk x k → ¬ F k) : IsCache w' N cb R M V l hi mi :=
  ⟨k.get h.hb (h1 _ (.inl rfl)), h.ram.keeps k h2 h3 (h1 _ (.inr (.inr (.inr (.inr rfl))))), h.bl.keeps k fun g hg => h1 g (.inr (.inl hg)), owns_apart h.ow k fun g hg => h1 g (.inr (.inr (.inl hg))),
    h.mp.keeps k (h1 _ (.inr (.inr (.inr (.inl rfl))))), fun x hx => (h.fb x hx).keeps k (h4 x hx), h.ro, h.far⟩
theorem IsCache.same (h : IsCache w N cb R M V l hi mi) (k : Same w w') : IsCache w' N cb R M V l hi mi := h.keeps k (fun _ _ => id) id id (fun _ _ _ _ => id)
theorem IsCache.c (h : IsCache w N cb R M V l hi mi) (o : Nat) : w.cell? ⟨cb, o, none⟩ = (cacheA R V l hi mi)[o]? := cell_of h.hb o
theorem IsCache.fz (h : IsCache w N cb R M V l hi mi) (o : Nat) : w.frozen? ⟨cb, o, none⟩ = false := frozen_of h.hb o
theorem IsCache.bl_sl (h : IsCache w N cb R M V l hi mi) : ∃ p c, V.bl = .slice p l.length c := by
  have := h.bl.sl
  simpa using this
end
end Go.Proofs.YtomphgpplbekiaaGreat
namespace Go.Proofs.YtomphgpplbekiaaGreat
open Go.RowKit

def hitB (k : Int × Int) (f : Fp) : Bool := f.live && (f.k1 == k.1 && f.k2 == k.2)
/-- The number of the live block of a key. -/
def idxL (L : List Fp) (k : Int × Int) : Option Nat := L.findIdx? (hitB k)
theorem live_find (k : Int × Int) : ∀ (L : List Fp) (n : Nat), ((((L.zipIdx n).filter fun p => p.1.live).map fun p => ((p.1.k1, p.1.k2), (p.2 : Int))).find? (fun p => p.1 == k)).map (·.2) = (L.findIdx? (hitB k)).map (fun j => ((n + j : Nat) : Int))
  | [], n => rfl
  | f :: L, n => by
    have ih := live_find k L (n + 1)
    rw [List.zipIdx_cons, List.findIdx?_cons]
    by_cases hl : f.live = true
    · rw [List.filter_cons_of_pos (by simpa using hl), List.map_cons]
      by_cases hk : ((f.k1, f.k2) == k) = true
      · have hh : hitB k f = true := by
          simp only [hitB, hl, Bool.true_and, Bool.and_eq_true, beq_iff_eq]
          have := beq_iff_eq.1 hk
          rw [← this]
          exact ⟨rfl, rfl⟩
        rw [List.find?_cons_of_pos (by simpa using hk), if_pos hh]
        simp
      · have hh : hitB k f = false := by
          simp only [hitB, hl, Bool.true_and]
          cases hq : (f.k1 == k.1 && f.k2 == k.2)
          · rfl
          · exfalso
            apply hk
            simp only [Bool.and_eq_true, beq_iff_eq] at hq
            simp [hq.1, hq.2]
        rw [List.find?_cons_of_neg (by simpa using hk), ih, hh]
        simp only [Bool.false_eq_true, if_false, Option.map_map]
        congr 1
        funext j
        simp only [Function.comp]
        omega
    · have hh : hitB k f = false := by simp [hitB, hl]
      rw [List.filter_cons_of_neg (by simpa using hl), ih, hh]
      simp only [Bool.false_eq_true, if_false, Option.map_map]
      congr 1
      funext j
      simp only [Function.comp]
      omega
theorem look_live (L : List Fp) (k : Int × Int) : lookL2 (liveL L) k = (idxL L k).map (fun j => (j : Int)) := by
  unfold lookL2 liveL idxL
  rw [live_find k L 0]
  cases L.findIdx? (hitB k) <;> simp
theorem idxL_some {L : List Fp} {k : Int × Int} {j : Nat} (h : idxL L k = some j) : ∃ f, L[j]? = some f ∧ f.live = true ∧ f.k1 = k.1 ∧ f.k2 = k.2 := by
  unfold idxL at h
  rw [List.findIdx?_eq_some_iff_getElem] at h
  obtain ⟨h1, h2, -⟩ := h
  simp only [hitB, Bool.and_eq_true, beq_iff_eq] at h2
  exact ⟨L[j], List.getElem?_eq_getElem h1, h2.1, h2.2.1, h2.2.2⟩
theorem pl_at {l : List Fb} {j : Nat} {f : Fp} (h : (pl l)[j]? = some f) : ∃ x, l[j]? = some x ∧ x.1 = f := by
  unfold pl at h
  rw [List.getElem?_map] at h
  cases hl : l[j]? with
  | none => rw [hl] at h; cases h
  | some x => rw [hl] at h; simp at h; exact ⟨x, rfl, h⟩
theorem pl_len (l : List Fb) : (pl l).length = l.length := by simp [pl]
theorem usedL_le {L : List Fp} {j : Nat} {f : Fp} (h : L[j]? = some f) : f.bs.length ≤ usedL L := by
  unfold usedL
  have : f.bs.length ∈ L.map (·.bs.length) := List.mem_map.2 ⟨f, List.mem_of_getElem? h, rfl⟩
  generalize L.map (·.bs.length) = ns at *
  clear h
  induction ns with
  | nil => cases this
  | cons n ns ih =>
    rcases List.mem_cons.1 this with rfl | h
    · simp
    · have := ih h
      simp only [List.sum_cons]
      omega
end Go.Proofs.YtomphgpplbekiaaGreat
