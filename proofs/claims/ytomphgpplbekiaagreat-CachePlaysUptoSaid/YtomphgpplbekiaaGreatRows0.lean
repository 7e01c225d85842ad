/- Structs as whole blocks: 'rowAt w k', the cells of block k; whole loads and whole stores, for any struct type, without opening it into its cells. No program is named here. -/
import Derived.Test.YtomphgpplbekiaaGreatRes
import Derived.Deep.WholeRow
import Derived.WalkKit
namespace Go.Proofs.YtomphgpplbekiaaGreat
open Go.RowKit
theorem lt_s2 (n : Nat) : n < n + 1 + 1 := by omega
theorem lt_s3 (n : Nat) : n < n + 1 + 1 + 1 := by omega
theorem lt_s4 (n : Nat) : n < n + 1 + 1 + 1 + 1 := by omega
theorem lt_s5 (n : Nat) : n < n + 1 + 1 + 1 + 1 + 1 := by omega
theorem lt_s6 (n : Nat) : n < n + 1 + 1 + 1 + 1 + 1 + 1 := by omega
theorem lt_s7 (n : Nat) : n < n + 1 + 1 + 1 + 1 + 1 + 1 + 1 := by omega
theorem lt_s8 (n : Nat) : n < n + 1 + 1 + 1 + 1 + 1 + 1 + 1 + 1 := by omega
theorem lt_s9 (n : Nat) : n < n + 1 + 1 + 1 + 1 + 1 + 1 + 1 + 1 + 1 := by omega
theorem lt_s10 (n : Nat) : n < n + 1 + 1 + 1 + 1 + 1 + 1 + 1 + 1 + 1 + 1 := by omega
theorem lt_s11 (n : Nat) : n < n + 1 + 1 + 1 + 1 + 1 + 1 + 1 + 1 + 1 + 1 + 1 := by omega
theorem ne_s1 (n : Nat) : (n + 1 = n) = False := by simp; try omega
theorem en_s1 (n : Nat) : (n = n + 1) = False := by simp; try omega
theorem ne_s2 (n : Nat) : (n + 1 + 1 = n) = False := by simp; try omega
theorem en_s2 (n : Nat) : (n = n + 1 + 1) = False := by simp; try omega
theorem ne_s3 (n : Nat) : (n + 1 + 1 + 1 = n) = False := by simp; try omega
theorem en_s3 (n : Nat) : (n = n + 1 + 1 + 1) = False := by simp; try omega
theorem ne_s4 (n : Nat) : (n + 1 + 1 + 1 + 1 = n) = False := by simp; try omega
theorem en_s4 (n : Nat) : (n = n + 1 + 1 + 1 + 1) = False := by simp; try omega
theorem ne_s5 (n : Nat) : (n + 1 + 1 + 1 + 1 + 1 = n) = False := by simp; try omega
theorem en_s5 (n : Nat) : (n = n + 1 + 1 + 1 + 1 + 1) = False := by simp; try omega
theorem ne_s6 (n : Nat) : (n + 1 + 1 + 1 + 1 + 1 + 1 = n) = False := by simp; try omega
theorem en_s6 (n : Nat) : (n = n + 1 + 1 + 1 + 1 + 1 + 1) = False := by simp; try omega
theorem ne_s7 (n : Nat) : (n + 1 + 1 + 1 + 1 + 1 + 1 + 1 = n) = False := by simp; try omega
theorem en_s7 (n : Nat) : (n = n + 1 + 1 + 1 + 1 + 1 + 1 + 1) = False := by simp; try omega
theorem ne_s8 (n : Nat) : (n + 1 + 1 + 1 + 1 + 1 + 1 + 1 + 1 = n) = False := by simp; try omega
theorem en_s8 (n : Nat) : (n = n + 1 + 1 + 1 + 1 + 1 + 1 + 1 + 1) = False := by simp; try omega
theorem ne_s9 (n : Nat) : (n + 1 + 1 + 1 + 1 + 1 + 1 + 1 + 1 + 1 = n) = False := by simp; try omega
theorem en_s9 (n : Nat) : (n = n + 1 + 1 + 1 + 1 + 1 + 1 + 1 + 1 + 1) = False := by simp; try omega
theorem ne_s10 (n : Nat) : (n + 1 + 1 + 1 + 1 + 1 + 1 + 1 + 1 + 1 + 1 = n) = False := by simp; try omega
theorem en_s10 (n : Nat) : (n = n + 1 + 1 + 1 + 1 + 1 + 1 + 1 + 1 + 1 + 1) = False := by simp; try omega
theorem ne_s11 (n : Nat) : (n + 1 + 1 + 1 + 1 + 1 + 1 + 1 + 1 + 1 + 1 + 1 = n) = False := by simp; try omega
theorem en_s11 (n : Nat) : (n = n + 1 + 1 + 1 + 1 + 1 + 1 + 1 + 1 + 1 + 1 + 1) = False := by simp; try omega
theorem setRow_old (w : World) (o : Obj) (k : Nat) (c : Array Value) (hk : k < w.heap.size) : (w.alloc o).setRow k c = (w.setRow k c).alloc o := by
  simp only [World.setRow, World.alloc]
  congr 1
  apply Array.ext_getElem?
  intro i
  simp only [Array.getElem?_push, Array.getElem?_modify, Array.size_modify]
  by_cases h : k = i
  · subst h; simp [Nat.ne_of_lt hk, hk]
  · by_cases h2 : i = w.heap.size <;> simp [h, h2]
    intro h3; omega
theorem setRow_at (w : World) (k : Nat) (c c' : Array Value) (t : TypeId) (hk : k = w.heap.size) : (w.alloc (.cells c t)).setRow k c' = w.alloc (.cells c' t) := by
  subst hk; exact World.setRow_alloc_new _ _ _ _
/-- The cells of an object, if they may be written. -/
def objRow : Obj → Array Value
  | .cells A _ (0, 0) => A
  | _ => #[]
/-- A block's cells, if they may be written. -/
def rowAt (w : World) (k : Nat) : Array Value := ((w.heap[k]?).map objRow).getD #[]
theorem rowAt_of {w : World} {k : Nat} {A : Array Value} {t : TypeId} (h : w.heap[k]? = some (.cells A t (0, 0))) : rowAt w k = A := by
  simp [rowAt, h, objRow]
theorem rowAt_at (w : World) (k : Nat) (c : Array Value) (t : TypeId) (hk : k = w.heap.size) : rowAt (w.alloc (.cells c t)) k = c := by
  subst hk; exact rowAt_of (block_new _ _)
theorem rowAt_old (w : World) (k : Nat) (o : Obj) (hk : k < w.heap.size) : rowAt (w.alloc o) k = rowAt w k := by
  unfold rowAt; rw [Below.heap_alloc _ _ _ hk]
theorem rowAt_drew (w : World) (k : Nat) : rowAt w.drew k = rowAt w k := rfl
theorem rowAt_drewN (w : World) (k n : Nat) : rowAt (w.drewN n) k = rowAt w k := rfl
theorem rowAt_setCell_ne (w : World) (k : Nat) (a : Addr) (v : Value) (h : k ≠ a.block) : rowAt (w.setCell a v) k = rowAt w k := by
  unfold rowAt; rw [Below.heap_setCell _ _ _ _ h]
theorem rowAt_setRow_ne (w : World) (k j : Nat) (c : Array Value) (h : k ≠ j) : rowAt (w.setRow j c) k = rowAt w k := by
  unfold rowAt; rw [setRow_other w j k c h]
theorem row_block {w : World} {k n : Nat} (h : (rowAt w k).size = n + 1) : ∃ t, w.heap[k]? = some (.cells (rowAt w k) t (0, 0)) := by
  cases hh : w.heap[k]? with
  | none => simp [rowAt, hh] at h
  | some o =>
    have e : rowAt w k = objRow o := by simp [rowAt, hh]
    rw [e] at h ⊢
    unfold objRow at h ⊢
    split at h
    · exact ⟨_, rfl⟩
    · simp at h
theorem block_row0 {w : World} {k : Nat} (h : 0 < (rowAt w k).size) : ∃ t, w.heap[k]? = some (.cells (rowAt w k) t (0, 0)) :=
  row_block (n := (rowAt w k).size - 1) (by omega)
theorem setCell_row (w : World) (k o : Nat) (v : Value) (h : 0 < (rowAt w k).size) : w.setCell ⟨k, o, none⟩ v = w.setRow k ((rowAt w k).setIfInBounds o v) := by
  obtain ⟨t, hb⟩ := block_row0 h
  simp only [World.setCell, World.setRow]
  congr 1
  apply Array.ext_getElem?
  intro i
  simp only [Array.getElem?_modify]
  by_cases hi : k = i
  · subst hi; simp [hb]
  · simp [hi]
theorem setRow_setRow (w : World) (k : Nat) (c c' : Array Value) : (w.setRow k c).setRow k c' = w.setRow k c' := by
  simp only [World.setRow]
  congr 1
  apply Array.ext_getElem?
  intro i
  simp only [Array.getElem?_modify]
  by_cases hi : k = i
  · subst hi
    cases hh : w.heap[k]? with
    | none => simp
    | some o => cases o <;> simp
  · simp [hi]
theorem heap_setRow (w : World) (k : Nat) (c : Array Value) (h : 0 < (rowAt w k).size) : ∃ t, (w.setRow k c).heap[k]? = some (.cells c t (0, 0)) := by
  obtain ⟨t, hb⟩ := block_row0 h
  exact ⟨t, by simp [World.setRow, Array.getElem?_modify, hb]⟩
theorem rowAt_setRow_eq (w : World) (k : Nat) (c : Array Value) (h : 0 < (rowAt w k).size) : rowAt (w.setRow k c) k = c := by
  obtain ⟨t, hb⟩ := heap_setRow w k c h
  exact rowAt_of hb
theorem cell_setRow_eq (w : World) (k o : Nat) (c : Array Value) (h : 0 < (rowAt w k).size) : (w.setRow k c).cell? ⟨k, o, none⟩ = c[o]? := by
  obtain ⟨t, hb⟩ := heap_setRow w k c h
  exact cell_of hb o
theorem frozen_setRow_eq (w : World) (k o : Nat) (c : Array Value) (h : 0 < (rowAt w k).size) : (w.setRow k c).frozen? ⟨k, o, none⟩ = false := by
  obtain ⟨t, hb⟩ := heap_setRow w k c h
  exact frozen_of hb o
theorem cell_setRow_ne (w : World) (k j o : Nat) (c : Array Value) (h : j ≠ k) : (w.setRow k c).cell? ⟨j, o, none⟩ = w.cell? ⟨j, o, none⟩ :=
  World.cell?_of_block (setRow_other w k j c h)
theorem frozen_setRow_ne (w : World) (k j o : Nat) (c : Array Value) (h : j ≠ k) : (w.setRow k c).frozen? ⟨j, o, none⟩ = w.frozen? ⟨j, o, none⟩ := by
  simp only [World.frozen?, setRow_other w k j c h]
theorem setRow_drew (w : World) (k : Nat) (c : Array Value) : w.drew.setRow k c = (w.setRow k c).drew := rfl
/-- Each of its values is one cell. -/
def Ones (A : Array Value) : Prop := A.all (·.oneCell') = true
theorem oc_int (k : IntKind) (n : Int) : (Value.int k n).oneCell' = true := id rfl
theorem oc_bool (b : Bool) : (Value.bool b).oneCell' = true := id rfl
theorem oc_str (s : ByteArray) : (Value.string s).oneCell' = true := id rfl
theorem oc_ptr (p : Option Addr) : (Value.pointer p).oneCell' = true := id rfl
theorem oc_sl (p : Option Addr) (l c : Nat) : (Value.slice p l c).oneCell' = true := id rfl
theorem oc_map (r : Option Nat) : (Value.map r).oneCell' = true := id rfl
theorem oc_fn (f : Fn) (a b : Array Value) : (Value.func f a b).oneCell' = true := id rfl
theorem oc_nf : Value.nilFunc.oneCell' = true := id rfl
theorem oc_ni : Value.nilIface.oneCell' = true := id rfl
theorem oc_if (t : TypeId) (v : Value) : (Value.iface t v).oneCell' = true := id rfl
theorem ones_lit (l : List Value) : Ones l.toArray = (l.all (·.oneCell') = true) := by simp [Ones]
def isRowD : TypeDesc → Bool
  | .struct _ | .array _ _ => true
  | _ => false
/-- A whole load, as the walk meets it. -/
def ldRow (t : TypeId) (v : Value) : Sem Next := do pure (.value (← Instr.loadAt t v))
/-- A whole store. -/
def stRow (t : TypeId) (v x : Value) : Sem Next := do Instr.storeAt t v x; pure .skip
theorem ldRow_run {P : Program} (w : World) (t : TypeId) (g n : Nat) (d : TypeDesc) (hu : P.underlying t = some d) (hd : isRowD d = true) (hi : (P.info? t).map (·.size) = some (n + 1)) (h : (rowAt w g).size = n + 1) :
    (ldRow t (.pointer (some ⟨g, 0, none⟩))).run P w = .ok (.value (.agg (rowAt w g))) w := by
  obtain ⟨t', hb⟩ := row_block h
  have := run_loadVar_row (P := P) w g t' t (rowAt w g) (0, 0) d hb hu (by cases d <;> first | rfl | simp [isRowD] at hd) (by rw [h]; exact hi)
  simp only [ldRow, Instr.loadAt, Instr.sureAddr, Sem.run_bind, Sem.run_pure, Result.andThen_ok, this]
theorem stRow_run {P : Program} (w : World) (t : TypeId) (g n : Nat) (A : Array Value) (hi : (P.info? t).map (·.size) = some (n + 1)) (h : (rowAt w g).size = n + 1) (hA : A.size = n + 1) (h1 : Ones A) :
    (stRow t (.pointer (some ⟨g, 0, none⟩)) (.agg A)).run P w = .ok .skip (w.setRow g A) := by
  obtain ⟨t', hb⟩ := row_block h
  have := run_storeVar_row (P := P) w g t' t (rowAt w g) A hb (by rw [hA]; exact hi) (by omega) h1
  simp only [stRow, Instr.storeAt, Instr.sureAddr, Sem.run_bind, Sem.run_pure, Result.andThen_ok, this]
theorem execOp_ld (ρ : Operand → Value) (dst : Option Tmp) (t : TypeId) (x : Operand) (ty : TypeId) (pos : String) (after : Array Edge) (guard : Option (Nat × Bool)) :
    execOp ρ { dst, op := .load t x, type := ty, pos, after, guard } = ldRow t (ρ x) := rfl
theorem execOp_st (ρ : Operand → Value) (dst : Option Tmp) (t : TypeId) (x y : Operand) (ty : TypeId) (pos : String) (after : Array Edge) (guard : Option (Nat × Bool)) :
    execOp ρ { dst, op := .store t x y, type := ty, pos, after, guard } = stRow t (ρ x) (ρ y) := rfl
/-- What a call that has turned nothing says of the world behind it, as rules for the walk. -/
structure Facts (F : Nat → Prop) (w w1 : World) : Prop where
  c : ∀ k o, k < w.heap.size → ¬ F k → w1.cell? ⟨k, o, none⟩ = w.cell? ⟨k, o, none⟩
  f : ∀ k o, k < w.heap.size → ¬ F k → w1.frozen? ⟨k, o, none⟩ = w.frozen? ⟨k, o, none⟩
  r : ∀ k, k < w.heap.size → ¬ F k → rowAt w1 k = rowAt w k
  l : ∀ k, k < w.heap.size → k < w1.heap.size
  n : ∀ k, k < w.heap.size → (k = w1.heap.size) = False
  m : ∀ k, k < w.heap.size → (w1.heap.size = k) = False
theorem Keeps.facts {F : Nat → Prop} {w w1 : World} (h : Keeps F w w1) : Facts F w w1 :=
  ⟨fun k o hk hf => World.cell?_of_block (h.block k hk hf), fun k o hk hf => by simp only [World.frozen?, h.block k hk hf], fun k hk hf => by simp only [rowAt, h.block k hk hf],
    fun k hk => Nat.lt_of_lt_of_le hk h.size, fun k hk => by have := h.size; simp; omega, fun k hk => by have := h.size; simp; omega⟩
structure Facts0 (w w1 : World) : Prop where
  c : ∀ k o, k < w.heap.size → w1.cell? ⟨k, o, none⟩ = w.cell? ⟨k, o, none⟩
  f : ∀ k o, k < w.heap.size → w1.frozen? ⟨k, o, none⟩ = w.frozen? ⟨k, o, none⟩
  r : ∀ k, k < w.heap.size → rowAt w1 k = rowAt w k
  l : ∀ k, k < w.heap.size → k < w1.heap.size
  n : ∀ k, k < w.heap.size → (k = w1.heap.size) = False
  m : ∀ k, k < w.heap.size → (w1.heap.size = k) = False
theorem same_facts {w w1 : World} (h : Same w w1) : Facts0 w w1 :=
  ⟨fun k o hk => h.facts.c k o hk id, fun k o hk => h.facts.f k o hk id, fun k hk => h.facts.r k hk id, h.facts.l, h.facts.n, h.facts.m⟩
/-- A block that was made since. -/
structure Fresh (w u : World) (b : Nat) (A : Array Value) : Prop where
  c : ∀ o, u.cell? ⟨b, o, none⟩ = A[o]?
  f : ∀ o, u.frozen? ⟨b, o, none⟩ = false
  r : rowAt u b = A
  l : b < u.heap.size
  n : ∀ k, k < w.heap.size → (k = b) = False
  m : ∀ k, k < w.heap.size → (b = k) = False
theorem fresh_of {w u : World} {b : Nat} {A : Array Value} {t : TypeId} (h : u.heap[b]? = some (.cells A t (0, 0))) (hb : w.heap.size ≤ b) : Fresh w u b A :=
  ⟨fun o => cell_of h o, fun o => frozen_of h o, rowAt_of h, lt_of_block h, fun k hk => by simp; omega, fun k hk => by simp; omega⟩
/-- A result in a variable's cells. -/
theorem post_row {P : Program} {fn : Func} {R : Ending → World → Prop} {a : Act} {w : World} {p : Tmp} {t : TypeId} {b n : Nat} {d : TypeDesc} {A : Array Value} (h : fn.results = #[.cell p t]) (hu : P.underlying t = some d) (hd : isAggD d = true) (hi : (P.info? t).map (·.size) = some (n + 1))
    (hp : a.tmps.getD p undef = .pointer (some ⟨b, 0, none⟩)) (hf : a.defers = []) (he : rowAt w b = A) (hs : A.size = n + 1) (hR : R (.returned (.agg A)) w) : bodyPost P fn R .ret a w := by
  subst he
  obtain ⟨t', hb⟩ := row_block hs
  exact bodyPost_ret (results_c h hp hb hu hd (by rw [hs]; exact hi)) hf hR
theorem post_row2 {P : Program} {fn : Func} {R : Ending → World → Prop} {a : Act} {w : World} {p p' : Tmp} {t t' : TypeId} {b b' n n' : Nat} {d d' : TypeDesc} {A A' : Array Value} (h : fn.results = #[.cell p t, .cell p' t']) (hu : P.underlying t = some d) (hd : isAggD d = true) (hi : (P.info? t).map (·.size) = some (n + 1))
    (hu' : P.underlying t' = some d') (hd' : isAggD d' = true) (hi' : (P.info? t').map (·.size) = some (n' + 1))
    (hp : a.tmps.getD p undef = .pointer (some ⟨b, 0, none⟩)) (hp' : a.tmps.getD p' undef = .pointer (some ⟨b', 0, none⟩)) (hf : a.defers = []) (he : rowAt w b = A) (he' : rowAt w b' = A') (hs : A.size = n + 1) (hs' : A'.size = n' + 1) (hR : R (.returned (.tuple #[.agg A, .agg A'])) w) : bodyPost P fn R .ret a w := by
  subst he
  subst he'
  obtain ⟨t1, hb⟩ := row_block hs
  obtain ⟨t2, hb'⟩ := row_block hs'
  exact bodyPost_ret (results_cc h hp hb hu hd (by rw [hs]; exact hi) hp' hb' hu' hd' (by rw [hs']; exact hi')) hf hR
theorem post_row1 {P : Program} {fn : Func} {R : Ending → World → Prop} {a : Act} {w : World} {p u : Tmp} {t : TypeId} {b n : Nat} {d : TypeDesc} {A : Array Value} {v : Value} (h : fn.results = #[.cell p t, .tmp u]) (hu : P.underlying t = some d) (hd : isAggD d = true) (hi : (P.info? t).map (·.size) = some (n + 1))
    (hp : a.tmps.getD p undef = .pointer (some ⟨b, 0, none⟩)) (hv : a.tmps.getD u undef = v) (hf : a.defers = []) (he : rowAt w b = A) (hs : A.size = n + 1) (hR : R (.returned (.tuple #[.agg A, v])) w) : bodyPost P fn R .ret a w := by
  subst he
  subst hv
  obtain ⟨t1, hb⟩ := row_block hs
  exact bodyPost_ret (results_ct h hp hb hu hd (by rw [hs]; exact hi)) hf hR
end Go.Proofs.YtomphgpplbekiaaGreat
