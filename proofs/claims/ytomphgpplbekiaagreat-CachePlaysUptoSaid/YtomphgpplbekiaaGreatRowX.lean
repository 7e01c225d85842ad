/- A row of structs of the call's own, element by element: its cells, an element more, an element's cell turned, whole loads. -/
import Derived.Test.YtomphgpplbekiaaGreatRa
import Derived.Test.YtomphgpplbekiaaGreatCRow
import Derived.Laws.StructEq
namespace Go.Proofs.YtomphgpplbekiaaGreat
open Go.RowKit

/-- A row of structs of s cells: one list of cells for each. -/
structure RowX (w : World) (B : Nat) (e : TypeId) (s : Nat) (v : Value) (L : List (List Value)) : Prop where
  own : w.ownsRow B e s v L.length L.flatten
  len : ∀ c ∈ L, c.length = s
theorem flat_at : ∀ (L : List (List Value)) (s j i : Nat) (c : List Value) (x : Value), (∀ c ∈ L, c.length = s) → L[j]? = some c → c[i]? = some x → L.flatten[j * s + i]? = some x
  | [], _, _, _, _, _, _, h, _ => by simp at h
  | c0 :: L, s, 0, i, c, x, hl, h, hx => by
    simp at h; subst h
    have : i < c0.length := (List.getElem?_eq_some_iff.1 hx).1
    rw [List.flatten_cons, List.getElem?_append_left (by omega)]
    simpa using hx
  | c0 :: L, s, j + 1, i, c, x, hl, h, hx => by
    have h0 := hl c0 (by simp)
    have e : (j + 1) * s + i = s + (j * s + i) := by rw [Nat.succ_mul]; omega
    rw [List.flatten_cons, List.getElem?_append_right (by rw [h0, e]; omega), h0, e, Nat.add_sub_cancel_left]
    exact flat_at L s j i c x (fun c hc => hl c (by simp [hc])) (by simpa using h) hx
theorem flat_len : ∀ (L : List (List Value)) (s : Nat), (∀ c ∈ L, c.length = s) → L.flatten.length = L.length * s
  | [], _, _ => by simp
  | c0 :: L, s, hl => by
    rw [List.flatten_cons, List.length_append, flat_len L s (fun c hc => hl c (by simp [hc])), hl c0 (by simp), List.length_cons, Nat.succ_mul]
    omega
section
variable {w w' : World} {B : Nat} {e : TypeId} {s : Nat} {v : Value} {L : List (List Value)}
theorem RowX.nil : RowX w B e s (.slice none 0 0) [] := ⟨World.ownsRow_nil _ _ _ _, by simp⟩
theorem RowX.sl (h : RowX w B e s v L) : ∃ p c, v = .slice p L.length c := by
  obtain ⟨-, ⟨rfl, h0⟩ | ⟨g, cap, cur, rfl, -⟩⟩ := h.own
  · exact ⟨none, 0, by rw [h0]⟩
  · exact ⟨_, _, rfl⟩
theorem RowX.form (h : RowX w B e s v L) (hn : 0 < L.length) : ∃ g cap, v = .slice (some ⟨g, 0, none⟩) L.length cap ∧ L.length ≤ cap ∧ cap ≤ maxLen ∧ B ≤ g ∧ g < w.heap.size ∧ ∃ cur, w.heap[g]? = some (.cells cur e (0, 0)) ∧ cur.size = cap * s := by
  obtain ⟨h1, h2⟩ := h.own
  rcases h2 with ⟨-, h0⟩ | ⟨g, cap, cur, rfl, hB, hg, hc1, hc2, hc3, hc4⟩
  · omega
  · exact ⟨g, cap, rfl, hc1, hc2, hB, lt_of_block hg, cur, hg, hc3⟩
/-- An element's cells. -/
theorem RowX.at_ (h : RowX w B e s v L) {j : Nat} {c : List Value} (hj : L[j]? = some c) : ∃ g cap, v = .slice (some ⟨g, 0, none⟩) L.length cap ∧ L.length ≤ cap ∧ cap ≤ maxLen ∧ B ≤ g ∧ g < w.heap.size ∧ (∀ i x, c[i]? = some x → w.cell? ⟨g, j * s + i, none⟩ = some x) ∧ (∀ o, w.frozen? ⟨g, o, none⟩ = false) := by
  have hlt : j < L.length := (List.getElem?_eq_some_iff.1 hj).1
  obtain ⟨h1, h2⟩ := h.own
  rcases h2 with ⟨-, h0⟩ | ⟨g, cap, cur, rfl, hB, hg, hc1, hc2, hc3, hc4⟩
  · omega
  · refine ⟨g, cap, rfl, hc1, hc2, hB, lt_of_block hg, fun i x hx => ?_, fun o => frozen_of hg o⟩
    have hf := flat_at L s j i c x h.len hj hx
    have hb : j * s + i < L.length * s := by
      rw [← flat_len L s h.len]
      exact (List.getElem?_eq_some_iff.1 hf).1
    rw [cell_of hg]
    rw [← hc4, List.getElem?_take] at hf
    rw [if_pos hb] at hf
    simpa using hf
theorem RowX.keeps {F : Nat → Prop} (h : RowX w B e s v L) (k : Keeps F w w') (hF : ∀ g, some g = v.ownBlock → ¬ F g) : RowX w' B e s v L := ⟨owns_apart h.own k hF, h.len⟩
theorem RowX.lt (h : RowX w B e s v L) : ∀ k, some k = v.ownBlock → B ≤ k ∧ k < w.heap.size := fun k hk => by
  obtain ⟨-, ⟨rfl, h0⟩ | ⟨g, cap, cur, rfl, hB, hg, -⟩⟩ := h.own
  · cases hk
  · simp only [Value.ownBlock, Option.some.injEq] at hk
    subst hk
    exact ⟨hB, lt_of_block hg⟩
/-- Blocks of another kind are other blocks. -/
theorem RowX.ne (h : RowX w B e s v L) {b : Nat} {cs : Array Value} {t : TypeId} {f : Nat × Nat} (hb : w.heap[b]? = some (.cells cs t f)) (ht : t ≠ e) : some b ≠ v.ownBlock := fun hk => by
  obtain ⟨-, ⟨rfl, h0⟩ | ⟨g, cap, cur, rfl, hB, hg, -⟩⟩ := h.own
  · cases hk
  · simp only [Value.ownBlock, Option.some.injEq] at hk
    subst hk
    rw [hb] at hg
    cases hg
    exact ht rfl
theorem RowX.ne_map (h : RowX w B e s v L) {b : Nat} {es : Array MapEntry} {c : Nat} (hb : w.heap[b]? = some (.map es c)) : some b ≠ v.ownBlock := fun hk => by
  obtain ⟨-, ⟨rfl, h0⟩ | ⟨g, cap, cur, rfl, hB, hg, -⟩⟩ := h.own
  · cases hk
  · simp only [Value.ownBlock, Option.some.injEq] at hk
    subst hk
    rw [hb] at hg
    cases hg
/-- An element behind. -/
theorem RowX.push {P : Program} (h : RowX w B e s v L) (sT : TypeId) (z : Value) (by_ : Nat) (hS : P.underlying sT = some (.slice e)) (hi : (P.info? e).map (fun i => (i.zero, i.size, i.bytes)) = some (some z, s, by_)) (hzc : z.cells.size = s) (hs0 : 0 < s) (hb0 : by_ ≤ 1000)
    (c : List Value) (hc : c.length = s) (h1 : ∀ x ∈ c, x.oneCell' = true) (b : Nat) (cb : Nat) {cs : Array Value} {T : TypeId} (hb : w.heap[b]? = some (.cells cs T (0, 0))) (hcs : cs.toList = c) (hl : L.length + 1 ≤ 20000) (hB : B ≤ w.heap.size) :
    ∃ g cap w', (Builtin.append_ #[sT, sT] sT #[v, .slice (some ⟨b, 0, none⟩) 1 cb]).run P w = .ok (.slice (some ⟨g, 0, none⟩) (L.length + 1) cap) w' ∧ RowX w' B e s (.slice (some ⟨g, 0, none⟩) (L.length + 1) cap) (L ++ [c]) ∧ Grew w w' v (.slice (some ⟨g, 0, none⟩) (L.length + 1) cap) := by
  obtain ⟨i0, hi, hz0, hz1, hz2⟩ := info_of hi
  obtain ⟨g', cap, u', hr, h5, h3, h4, h6⟩ := run_append_lies (P := P) (w := w) sT sT B e i0 z s by_ hS hi hz0 hz1 hz2 hzc hs0 v L.length L.flatten h.own
    ⟨b, 0, none⟩ 1 cb c (by rw [hc, Nat.one_mul]) (by rw [← hcs]; exact World.news_of_block hb) h1 (by omega) (by simp [maxLen]; omega) (by have : (L.length + 1) * by_ ≤ 20000 * 1000 := Nat.mul_le_mul hl hb0; omega) hB _ rfl
  refine ⟨g', cap, u', hr, ⟨by simpa using h5, ?_⟩, grew_mk h3 h4 rfl h6⟩
  intro d hd
  rcases List.mem_append.1 hd with hd | hd
  · exact h.len d hd
  · simp at hd; subst hd; exact hc
end
/-- An append, by its run. -/
theorem exec_app {P : Program} {w w' : World} {ρ : Operand → Value} {o : Oper} (s x : Operand) (t : TypeId) (ho : o.op = .call { callee := .builtin .append, args := #[s, x], argTypes := #[t, t] })
    {v xv r : Value} (hs : ρ s = v) (hx : ρ x = xv) (hr : (Builtin.append_ #[t, t] o.type #[v, xv]).run P w = .ok r w') : (execOp ρ o).run P w = .ok (.value r) w' := by
  unfold execOp
  simp only [ho, resolve, invoke, builtin, Sem.run_bind, Sem.run_pure, Result.andThen_ok, List.map_toArray, List.map_cons, List.map_nil, hs, hx, hr]
theorem wpList_app {P : Program} {w w' : World} {ops : Array Oper} {rest : List Oper} {o : Oper} {a : Act} {Q : Exit → Act → World → Prop} (hgd : o.guard = none) (s x : Operand) (t : TypeId)
    (ho : o.op = .call { callee := .builtin .append, args := #[s, x], argTypes := #[t, t] }) {v xv r : Value} (hs : a.eval s = v) (hx : a.eval x = xv) (hr : (Builtin.append_ #[t, t] o.type #[v, xv]).run P w = .ok r w')
    (h : wpList P ops Q rest (a.put o.dst r) w') : wpList P ops Q (o :: rest) a w :=
  wpList_plain hgd fun _ hK => by
    unfold Oper.wp
    rw [exec_app s x t ho hs hx hr]
    exact hK _ _ h
/-- A struct loaded whole out of a row. -/
theorem ld_at {P : Program} {w : World} {t : TypeId} {g o n : Nat} {c : List Value} {d : TypeDesc} (hu : P.underlying t = some d) (hd : isAggD d = true) (hi : (P.info? t).map (·.size) = some n) (hn : c.length = n)
    (h : ∀ i x, c[i]? = some x → w.cell? ⟨g, o + i, none⟩ = some x) : (ldRow t (.pointer (some ⟨g, o, none⟩))).run P w = .ok (.value (.agg c.toArray)) w := by
  have hl : (loadCells ⟨g, o, none⟩ c.length).run P w = .ok c.toArray w :=
    run_loadCells_list (P := P) w ⟨g, o, none⟩ c (fun j v hv => by
      rw [Addr.add_lit]
      exact h j v hv)
  have hq : ∃ i, P.info? t = some i ∧ i.size = n := by
    cases hq : P.info? t with
    | none => rw [hq] at hi; cases hi
    | some i => rw [hq] at hi; simp at hi; exact ⟨i, rfl, hi⟩
  obtain ⟨i, hq, hi⟩ := hq
  have hagg : (isAgg t).run P w = .ok true w := by
    unfold isAgg
    rw [Sem.run_bind, run_underlying hu w]
    cases d <;> first | rfl | (simp [isAggD] at hd)
  have h : (loadVar t ⟨g, o, none⟩).run P w = .ok (.agg c.toArray) w := by
    simp [loadVar, Sem.run_bind, hagg, sizeOf, typeInfo, hq, hi, ← hn, hl]
  simp only [ldRow, Instr.loadAt, Instr.sureAddr, Sem.run_bind, Sem.run_pure, Result.andThen_ok, h]
end Go.Proofs.YtomphgpplbekiaaGreat
