/- A map whose keys are structs of two numbers (api.Key), seen as the list of its entries: look-up, a new entry, delete. -/
import Derived.Test.YtomphgpplbekiaaGreatRows
import Derived.Test.YtomphgpplbekiaaGreatHeap
import Derived.WalkKit
import Derived.Laws.StructEq
import Derived.MapKept
import Derived.Maps.Keyed
namespace Go.Proofs.YtomphgpplbekiaaGreat
open Go.RowKit

def kyV (a b : Int) : Value := .agg #[.int .u32 a, .int .u32 b]
theorem eq_ky (a b c d : Int) (w : World) : (Op.equal 31 (kyV a b) (kyV c d)).run Tryz.prog w = .ok (a == c && b == d) w := by
  show (Op.equalIn (9999 + 1) 31 (kyV a b) (kyV c d)).run Tryz.prog w = _
  unfold kyV
  rw [run_equalIn_struct w 9999 31 _ _ (by kernel_rfl) (by kernel_rfl)]
  cases h1 : (a == c) <;> cases h2 : (b == d) <;> go_simp
theorem check_ky (e : Bool) (a b : Int) (w : World) : (Instr.checkKey e 10000 31 (kyV a b)).run Tryz.prog w = .ok () w := by
  kernel_rfl
theorem find_ky (a b : Int) (w : World) : ∀ (es : List MapEntry) (i : Nat), (∀ e ∈ es, ∃ c d, e.key = kyV c d) →
    ((Instr.findAsking 31 (kyV a b) es i).run Tryz.prog w = .ok none w ∧ ∀ e ∈ es, e.key ≠ kyV a b) ∨
    ∃ j e, (Instr.findAsking 31 (kyV a b) es i).run Tryz.prog w = .ok (some (i + j, e.val)) w ∧ es[j]? = some e ∧ e.key = kyV a b ∧ ∀ k, k < j → ∀ x, es[k]? = some x → x.key ≠ kyV a b
  | [], i, _ => .inl ⟨rfl, by simp⟩
  | e :: es, i, h => by
    obtain ⟨c, d, hk⟩ := h e (by simp)
    have he := eq_ky a b c d w
    by_cases hq : a = c ∧ b = d
    · obtain ⟨rfl, rfl⟩ := hq
      refine .inr ⟨0, e, ?_, rfl, hk, fun k hk => absurd hk (by omega)⟩
      simp only [Instr.findAsking, hk, Sem.run_bind, he, Result.andThen_ok]
      simp
    · have hne : kyV c d ≠ kyV a b := fun h => by
        simp [kyV] at h
        exact hq ⟨h.1.symm, h.2.symm⟩
      have hf : (a == c && b == d) = false := by
        by_cases h1 : a = c
        · have h2 : ¬ b = d := fun h2 => hq ⟨h1, h2⟩
          simp [h2]
        · simp [h1]
      rw [hf] at he
      have hrun : (Instr.findAsking 31 (kyV a b) (e :: es) i).run Tryz.prog w = (Instr.findAsking 31 (kyV a b) es (i + 1)).run Tryz.prog w := by
        simp only [Instr.findAsking, hk, Sem.run_bind, he, Result.andThen_ok]
        simp
      rw [hrun]
      rcases find_ky a b w es (i + 1) (fun x hx => h x (by simp [hx])) with ⟨h1, h2⟩ | ⟨j, x, h1, h2, h3, h4⟩
      · refine .inl ⟨h1, fun x hx => ?_⟩
        rcases List.mem_cons.1 hx with rfl | hx
        · rw [hk]; exact hne
        · exact h2 x hx
      · refine .inr ⟨j + 1, x, by rw [h1, show i + 1 + j = i + (j + 1) from by omega], by simpa using h2, h3, fun k hkj y hy => ?_⟩
        cases k with
        | zero => simp at hy; subst hy; rw [hk]; exact hne
        | succ k => exact h4 k (by omega) y (by simpa using hy)
set_option maxRecDepth 100000 in
theorem findKey_ky (a b : Int) (w : World) (es : List MapEntry) (h : ∀ e ∈ es, ∃ c d, e.key = kyV c d) :
    (Instr.findKey 31 (kyV a b) es).run Tryz.prog w = (Instr.findAsking 31 (kyV a b) es 0).run Tryz.prog w := by
  unfold Instr.findKey
  rw [Sem.run_bind, run_underlying Tryz.underlying31, Result.andThen_ok]
  cases es with
  | nil => rfl
  | cons e es =>
    obtain ⟨c, d, hk⟩ := h e (by simp)
    have hn : ∀ ty, Instr.findNow (.struct ty) (kyV a b) (e :: es) 0 = none := fun ty => by
      unfold Instr.findNow
      rw [hk]
      rfl
    rw [hn]
/-- The entries: keys and numbers, in the order in which they came. -/
def MapL (w : World) (b : Nat) (l : List ((Int × Int) × Int)) : Prop := ∃ es clock, w.heap[b]? = some (.map es clock) ∧ es.toList.map (fun e => (e.key, e.val)) = l.map (fun p => (kyV p.1.1 p.1.2, Value.int .i64 p.2))
def lookL2 (l : List ((Int × Int) × Int)) (k : Int × Int) : Option Int := (l.find? (fun p => p.1 == k)).map (·.2)
theorem MapL.keeps {F : Nat → Prop} {w w' : World} {b : Nat} {l : List ((Int × Int) × Int)} (h : MapL w b l) (k : Keeps F w w') (hb : ¬ F b) : MapL w' b l := by
  obtain ⟨es, c, h1, h2⟩ := h
  exact ⟨es, c, k.get h1 hb, h2⟩
theorem kyV_inj {a b c d : Int} (h : kyV a b = kyV c d) : a = c ∧ b = d := by
  simp [kyV] at h
  exact h
section
variable {w : World} {b : Nat} {l : List ((Int × Int) × Int)}
theorem MapL.keys {es : Array MapEntry} (h : es.toList.map (fun e => (e.key, e.val)) = l.map (fun p => (kyV p.1.1 p.1.2, Value.int .i64 p.2))) : ∀ e ∈ es.toList, ∃ c d, e.key = kyV c d := fun e he => by
  have : (e.key, e.val) ∈ l.map (fun p => (kyV p.1.1 p.1.2, Value.int .i64 p.2)) := by rw [← h]; exact List.mem_map.2 ⟨e, he, rfl⟩
  obtain ⟨p, _, hp⟩ := List.mem_map.1 this
  exact ⟨_, _, (Prod.mk.inj hp).1.symm⟩
theorem MapL.at_ {es : Array MapEntry} (h : es.toList.map (fun e => (e.key, e.val)) = l.map (fun p => (kyV p.1.1 p.1.2, Value.int .i64 p.2))) (j : Nat) : (es.toList[j]?).map (fun e => (e.key, e.val)) = (l[j]?).map (fun p => (kyV p.1.1 p.1.2, Value.int .i64 p.2)) := by
  rw [← List.getElem?_map, ← List.getElem?_map, h]
/-- What is found. -/
theorem MapL.find (h : MapL w b l) (k : Int × Int) : ∃ es clock, w.heap[b]? = some (.map es clock) ∧ es.toList.map (fun e => (e.key, e.val)) = l.map (fun p => (kyV p.1.1 p.1.2, Value.int .i64 p.2)) ∧
    (((Instr.findKey 31 (kyV k.1 k.2) es.toList).run Tryz.prog w = .ok none w ∧ (∀ p ∈ l, p.1 ≠ k)) ∨
     ∃ j p, (Instr.findKey 31 (kyV k.1 k.2) es.toList).run Tryz.prog w = .ok (some (j, .int .i64 p.2)) w ∧ l[j]? = some p ∧ p.1 = k ∧ ∀ i, i < j → ∀ x, l[i]? = some x → x.1 ≠ k) := by
  obtain ⟨es, clock, h1, h2⟩ := h
  refine ⟨es, clock, h1, h2, ?_⟩
  have hk := MapL.keys h2
  have hat := MapL.at_ h2
  rw [findKey_ky _ _ _ _ hk]
  rcases find_ky k.1 k.2 w es.toList 0 hk with ⟨h3, h4⟩ | ⟨j, e, h3, h4, h5, h6⟩
  · refine .inl ⟨h3, fun p hp hpk => ?_⟩
    have : (kyV p.1.1 p.1.2, Value.int .i64 p.2) ∈ es.toList.map (fun e => (e.key, e.val)) := by rw [h2]; exact List.mem_map.2 ⟨p, hp, rfl⟩
    obtain ⟨e, he, hep⟩ := List.mem_map.1 this
    exact h4 e he (by rw [(Prod.mk.inj hep).1, hpk])
  · have hj := hat j
    rw [h4] at hj
    cases hl : l[j]? with
    | none => rw [hl] at hj; cases hj
    | some p =>
      rw [hl] at hj
      simp only [Option.map_some, Option.some.injEq, Prod.mk.injEq] at hj
      refine .inr ⟨j, p, by rw [h3, hj.2]; simp, hl, ?_, fun i hi x hx hxk => ?_⟩
      · rw [h5] at hj
        have := kyV_inj hj.1
        exact Prod.ext this.1.symm this.2.symm
      · have hi2 := hat i
        rw [hx] at hi2
        cases he : es.toList[i]? with
        | none => rw [he] at hi2; cases hi2
        | some y =>
          rw [he] at hi2
          simp only [Option.map_some, Option.some.injEq, Prod.mk.injEq] at hi2
          exact h6 i hi y he (by rw [hi2.1, hxk])
theorem lookL2_none {k : Int × Int} (h : ∀ p ∈ l, p.1 ≠ k) : lookL2 l k = none := by
  unfold lookL2
  rw [List.find?_eq_none.2 (fun p hp => by simpa using h p hp)]
  rfl
theorem lookL2_some {j : Nat} {p : (Int × Int) × Int} {k : Int × Int} (h : l[j]? = some p) (hk : p.1 = k) (hn : ∀ i, i < j → ∀ x, l[i]? = some x → x.1 ≠ k) : lookL2 l k = some p.2 := by
  unfold lookL2
  induction l generalizing j with
  | nil => simp at h
  | cons q l ih =>
    cases j with
    | zero => simp at h; subst h; simp [hk]
    | succ j =>
      have hq := hn 0 (by omega) q rfl
      rw [List.find?_cons_of_neg (by simpa using hq)]
      exact ih (by simpa using h) (fun i hi x hx => hn (i + 1) (by omega) x (by simpa using hx))
/-- 'v, is := m[k]'. -/
theorem MapL.look (h : MapL w b l) (t : TypeId) (ht : Tryz.prog.underlying t = some (.map 31 3)) (k1 k2 : Int) :
    (Instr.lookup t (.map (some b)) (kyV k1 k2) true).run Tryz.prog w = .ok (.tuple #[.int .i64 ((lookL2 l (k1, k2)).getD 0), .bool (lookL2 l (k1, k2)).isSome]) w := by
  obtain ⟨es, clock, h1, h2, h3⟩ := h.find (k1, k2)
  have hz : (zeroValue 3).run Tryz.prog w = .ok (.int .i64 0) w := Tryz.zeroValue3 w
  simp only at h3
  rcases h3 with ⟨h3, h4⟩ | ⟨j, p, h3, h4, h5, h6⟩
  · rw [lookL2_none h4]
    simp [Instr.lookup, run_underlying ht, MapKept.run_getObj_map h1, check_ky, h3, hz, Result.andThen]
  · rw [lookL2_some h4 h5 h6]
    simp [Instr.lookup, run_underlying ht, MapKept.run_getObj_map h1, check_ky, h3, Result.andThen]
theorem keeps_obj {w : World} {b : Nat} {o o' : Obj} (_h : w.heap[b]? = some o) : Keeps (fun k => k = b) w { w with heap := w.heap.setIfInBounds b o' } :=
  ⟨rfl, rfl, rfl, by simp, fun k hk hf => by simp [Ne.symm hf]⟩
/-- 'm[k] = v', of a key that is not there. -/
theorem MapL.put (h : MapL w b l) (t : TypeId) (ht : Tryz.prog.underlying t = some (.map 31 3)) (k1 k2 v : Int) (hk : lookL2 l (k1, k2) = none) :
    ∃ w', (Instr.mapUpdate t (.map (some b)) (kyV k1 k2) (.int .i64 v)).run Tryz.prog w = .ok () w' ∧ MapL w' b (l ++ [((k1, k2), v)]) ∧ Keeps (fun k => k = b) w w' := by
  obtain ⟨es, clock, h1, h2, h3⟩ := h.find (k1, k2)
  rcases h3 with ⟨h3, h4⟩ | ⟨j, p, h3, h4, h5, h6⟩
  · refine ⟨{ w with heap := w.heap.setIfInBounds b (.map (es.push ⟨kyV k1 k2, .int .i64 v, clock⟩) (clock + 1)) }, ?_, ⟨_, _, (MapKept.heap_set h1).1, ?_⟩, keeps_obj h1⟩
    · simp [Instr.mapUpdate, run_underlying ht, MapKept.run_getObj_map h1, check_ky, h3, MapKept.run_setObj_map _ h1, Result.andThen]
    · simp [h2]
  · rw [lookL2_some h4 h5 h6] at hk
    cases hk
theorem map_eraseIdx' {α β : Type} (f : α → β) : ∀ (l : List α) (j : Nat), (l.eraseIdx j).map f = (l.map f).eraseIdx j
  | [], _ => rfl
  | x :: l, 0 => rfl
  | x :: l, j + 1 => by simp [map_eraseIdx' f l j]
theorem eraseIdx_eraseP {α : Type} (p : α → Bool) : ∀ (l : List α) (j : Nat) (x : α), l[j]? = some x → p x = true → (∀ i, i < j → ∀ y, l[i]? = some y → p y = false) → l.eraseIdx j = l.eraseP p
  | [], j, x, h, _, _ => by simp at h
  | y :: l, 0, x, h, hp, _ => by simp at h; subst h; simp [hp]
  | y :: l, j + 1, x, h, hp, hn => by
    have hy := hn 0 (by omega) y rfl
    rw [List.eraseIdx_cons_succ, List.eraseP_cons_of_neg (by simp [hy])]
    rw [eraseIdx_eraseP p l j x (by simpa using h) hp (fun i hi z hz => hn (i + 1) (by omega) z (by simpa using hz))]
/-- 'delete(m, k)'. -/
theorem MapL.del (h : MapL w b l) (t ty : TypeId) (ht : Tryz.prog.underlying t = some (.map 31 3)) (k1 k2 : Int) :
    ∃ w', (Builtin.delete_ #[t, 31] ty #[.map (some b), kyV k1 k2]).run Tryz.prog w = .ok (.tuple #[]) w' ∧ MapL w' b (l.eraseP (fun p => p.1 == (k1, k2))) ∧ Keeps (fun k => k = b) w w' := by
  obtain ⟨es, clock, h1, h2, h3⟩ := h.find (k1, k2)
  rcases h3 with ⟨h3, h4⟩ | ⟨j, p, h3, h4, h5, h6⟩
  · refine ⟨{ w with heap := w.heap.setIfInBounds b (.map es clock) }, ?_, ⟨_, _, (MapKept.heap_set h1).1, ?_⟩, keeps_obj h1⟩
    · simp [Builtin.delete_, run_underlying ht, MapKept.run_getObj_map h1, check_ky, h3, MapKept.run_setObj_map _ h1, Result.andThen]
    · rw [h2, List.eraseP_of_forall_not (fun p hp => by simpa using h4 p hp)]
  · have hjs : j < es.size := by
      have := (List.getElem?_eq_some_iff.1 h4).1
      have e : es.toList.length = l.length := by simpa using congrArg List.length h2
      simp at e
      omega
    refine ⟨{ w with heap := w.heap.setIfInBounds b (.map (es.eraseIdxIfInBounds j) clock) }, ?_, ⟨_, _, (MapKept.heap_set h1).1, ?_⟩, keeps_obj h1⟩
    · simp [Builtin.delete_, run_underlying ht, MapKept.run_getObj_map h1, check_ky, h3, MapKept.run_setObj_map _ h1, Result.andThen]
    · have hsub : (es.eraseIdxIfInBounds j).toList = es.toList.eraseIdx j := by
        unfold Array.eraseIdxIfInBounds
        rw [dif_pos hjs]
        simp
      rw [hsub, map_eraseIdx', h2, ← map_eraseIdx', eraseIdx_eraseP (fun p => p.1 == (k1, k2)) l j p h4 (by simpa using h5) (fun i hi x hx => by simpa using h6 i hi x hx)]
end
end Go.Proofs.YtomphgpplbekiaaGreat
