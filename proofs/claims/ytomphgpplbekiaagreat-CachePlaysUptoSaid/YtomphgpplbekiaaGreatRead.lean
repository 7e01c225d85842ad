/- What is known of an argument that came in: 'Rd P w n t cs': the cells cs are a value of type t in the world w, each number fits its kind, each slice leads to so many elements that are values in their turn. It follows of the claim's own reading. -/
import Derived.WalkKit
import Derived.ProofKit
namespace Go.Proofs.YtomphgpplbekiaaGreat
open Go.RowKit Go.ChangeShapes Go.WideShapes Go.ChangeAt

def Rd (P : Program) (w : World) : Nat → TypeId → List Value → Prop
  | 0, _, _ => False
  | n + 1, t, cs =>
    match P.underlying t with
    | some .bool => ∃ b, cs = [.bool b]
    | some (.int k) => ∃ x, cs = [.int k x] ∧ (Lit.int k x).wf = true
    | some .string => ∃ s, cs = [.string s] ∧ s.size ≤ maxLen
    | some (.slice e) => cs = [.slice none 0 0] ∨ ∃ a len cap, cs = [.slice (some a) len cap] ∧ len ≤ cap ∧ cap ≤ maxLen ∧
        ∀ i, i < len → ∃ es, es.length = P.cellsOf e ∧ (∀ j, j < P.cellsOf e → a.spot = none ∧ w.cell? ⟨a.block, a.off + (i * P.cellsOf e + j), none⟩ = es[j]?) ∧ Rd P w n e es
    | some (.struct fs) => cs.length = P.cellsOf t ∧ ∀ f ∈ fs.toList, Rd P w n f.type ((cs.drop f.offset).take (P.cellsOf f.type))
    | some (.array m e) => cs.length = P.cellsOf t ∧ ∀ i, i < m → Rd P w n e ((cs.drop (i * P.cellsOf e)).take (P.cellsOf e))
    | _ => True

theorem mapM_some {α β : Type} {f : α → Option β} : ∀ {l : List α} {r : List β}, l.mapM f = some r → r.length = l.length ∧ ∀ x ∈ l, ∃ y, f x = some y
  | [], r, h => by simp at h; subst h; simp
  | a :: l, r, h => by
    simp only [List.mapM_cons, Option.bind_eq_bind, Option.bind_eq_some_iff, Option.pure_def, Option.some.injEq] at h
    obtain ⟨y, hy, r', hr, rfl⟩ := h
    obtain ⟨h1, h2⟩ := mapM_some hr
    exact ⟨by simp [h1], fun x hx => by
      rcases List.mem_cons.1 hx with rfl | hx
      · exact ⟨y, hy⟩
      · exact h2 x hx⟩
theorem mapM_get {β : Type} {f : Nat → Option β} : ∀ {n : Nat} {r : List β}, (List.range n).mapM f = some r → ∀ i, i < n → f i = r[i]? := by
  intro n
  induction n with
  | zero => intro r _ i hi; omega
  | succ n ih =>
    intro r h i hi
    rw [List.range_succ, List.mapM_append] at h
    simp only [List.mapM_cons, List.mapM_nil, Option.bind_eq_bind, Option.bind_eq_some_iff, Option.pure_def, Option.some.injEq] at h
    obtain ⟨r1, h1, r2, ⟨y, hy, z, rfl, rfl⟩, rfl⟩ := h
    have hl := (mapM_some h1).1
    simp at hl
    by_cases e : i < n
    · rw [ih h1 i e, List.getElem?_append_left (by omega)]
    · obtain rfl : i = n := by omega
      rw [hy, List.getElem?_append_right (by omega), hl]; simp

theorem add_spot {w : World} {a : Addr} {i j : Nat} {v : Value} (h : w.cell? ((a.add i).add j) = some v) (h0 : i + j = 0 → a.spot = none) : w.cell? ⟨a.block, a.off + (i + j), none⟩ = some v := by
  unfold Addr.add at h
  by_cases hi : i = 0
  · by_cases hj : j = 0
    · subst hi hj
      have := h0 rfl
      obtain ⟨b, o, s⟩ := a
      simp only at this; subst this
      simpa using h
    · subst hi; simp [hj] at h; simpa using h
  · by_cases hj : j = 0
    · subst hj; simp [hi] at h; simpa using h
    · simp [hi, hj] at h; rw [← Nat.add_assoc]; exact h

theorem rd_of_trod {H : Type} {enc : TypeId × Value → H} {P : Program} {w : World} : ∀ (n : Nat) (t : TypeId) (cs : List Value) (r : DataW H × List MemPlace), DataW.trod enc P w 0 (fun _ => true) true n t cs = some r → Rd P w n t cs
  | 0, _, _, _, h => by simp [DataW.trod] at h
  | n + 1, t, cs, r, h => by
    unfold DataW.trod at h
    unfold Rd
    split at h
    case h_1 hu => simp only [hu]; exact ⟨_, rfl⟩
    case h_2 k k' x hu =>
      simp only [hu]
      split at h
      · rename_i hk; obtain ⟨rfl, hw⟩ := hk; exact ⟨_, rfl, hw⟩
      · cases h
    case h_3 hu => simp only [hu]
    case h_4 s hu =>
      simp only [hu]
      split at h
      · rename_i hs; exact ⟨_, rfl, hs⟩
      · cases h
    case h_7 hu => simp only [hu]; first | exact .inl rfl | exact .inl trivial
    case h_8 e a len cap hu =>
      simp only [hu]
      split at h
      case isTrue hc =>
        obtain ⟨_, hl, hm⟩ := hc
        refine .inr ⟨a, len, cap, rfl, hl, hm, fun i hi => ?_⟩
        simp only [Option.bind_eq_some_iff] at h
        obtain ⟨elems, he, _⟩ := h
        obtain ⟨y, hy⟩ := (mapM_some he).2 i (by simpa using hi)
        simp only [Option.bind_eq_some_iff] at hy
        obtain ⟨es, hes, hy⟩ := hy
        simp only [World.cells?, Nat.zero_le, if_true] at hes
        have hlen := (mapM_some hes).1
        simp at hlen
        have hg := mapM_get hes
        refine ⟨es, hlen, fun j hj => ?_, rd_of_trod n e es _ hy⟩
        have hsp : a.spot = none := by
          have : 0 < len := by omega
          obtain ⟨y0, hy0⟩ := (mapM_some he).2 0 (by simpa using this)
          simp only [Option.bind_eq_some_iff] at hy0
          obtain ⟨es0, hes0, _⟩ := hy0
          simp only [World.cells?, Nat.zero_le, if_true] at hes0
          have hg0 := mapM_get hes0 0 (by omega)
          have hl0 := (mapM_some hes0).1
          simp at hl0
          have : es0[0]? = some es0[0] := List.getElem?_eq_getElem (by omega)
          rw [this] at hg0
          have hg1 : w.cell? a = some es0[0] := by simpa [Addr.add] using hg0
          exact World.cell?_spot hg1
        have := hg j hj
        have e1 : es[j]? = some es[j] := List.getElem?_eq_getElem (by omega)
        rw [e1] at this ⊢
        exact ⟨hsp, add_spot this (fun _ => hsp)⟩
      case isFalse => cases h
    case h_9 fs cs hu =>
      simp only [hu]
      split at h
      case isTrue hl =>
        refine ⟨hl, fun f hf => ?_⟩
        simp only [Option.map_eq_some_iff] at h
        obtain ⟨xs, hx, _⟩ := h
        obtain ⟨y, hy⟩ := (mapM_some hx).2 f hf
        exact rd_of_trod n _ _ _ hy
      case isFalse => cases h
    case h_10 m e cs hu =>
      simp only [hu]
      split at h
      case isTrue hl =>
        refine ⟨hl, fun i hi => ?_⟩
        simp only [Option.map_eq_some_iff] at h
        obtain ⟨xs, hx, _⟩ := h
        obtain ⟨y, hy⟩ := (mapM_some hx).2 i (by simpa using hi)
        exact rd_of_trod n _ _ _ hy
      case isFalse => cases h
    all_goals first | (rename_i hu; simp only [hu]) | (rename_i hu _; simp only [hu]) | (simp only [*]) | cases h
/-- The same, without the depth. -/
def RdV (P : Program) (w : World) (t : TypeId) (cs : List Value) : Prop := ∃ n, Rd P w n t cs
theorem rd_of_Trod {H : Type} {enc : TypeId × Value → H} {P : Program} {w : World} {t : TypeId} {v : Value} {d : DataW H} {ps : List MemPlace} (h : DataW.Trod enc P w 0 (fun _ => true) true t v d ps) : RdV P w t v.cells.toList := by
  obtain ⟨n, h⟩ := h
  exact ⟨n, rd_of_trod n _ _ _ h⟩
section
variable {P : Program} {w : World} {t : TypeId} {cs : List Value}
theorem RdV.bool (h : RdV P w t cs) (hu : P.underlying t = some .bool) : ∃ b, cs = [.bool b] := by
  obtain ⟨n, h⟩ := h
  cases n with
  | zero => cases h
  | succ n => simpa only [Rd, hu] using h
theorem RdV.int {k : IntKind} (h : RdV P w t cs) (hu : P.underlying t = some (.int k)) : ∃ x, cs = [.int k x] ∧ k.min ≤ x ∧ x ≤ k.max := by
  obtain ⟨n, h⟩ := h
  cases n with
  | zero => cases h
  | succ n =>
    simp only [Rd, hu] at h
    obtain ⟨x, rfl, hx⟩ := h
    refine ⟨x, rfl, ?_⟩
    simpa [Lit.wf] using hx
theorem RdV.str (h : RdV P w t cs) (hu : P.underlying t = some .string) : ∃ s, cs = [.string s] ∧ s.size ≤ maxLen := by
  obtain ⟨n, h⟩ := h
  cases n with
  | zero => cases h
  | succ n => simpa only [Rd, hu] using h
theorem RdV.slice {e : TypeId} (h : RdV P w t cs) (hu : P.underlying t = some (.slice e)) : cs = [.slice none 0 0] ∨ ∃ a len cap, cs = [.slice (some a) len cap] ∧ len ≤ cap ∧ cap ≤ maxLen ∧
    ∀ i, i < len → ∃ es, es.length = P.cellsOf e ∧ (∀ j, j < P.cellsOf e → a.spot = none ∧ w.cell? ⟨a.block, a.off + (i * P.cellsOf e + j), none⟩ = es[j]?) ∧ RdV P w e es := by
  obtain ⟨n, h⟩ := h
  cases n with
  | zero => cases h
  | succ n =>
    simp only [Rd, hu] at h
    rcases h with h | ⟨a, len, cap, h1, h2, h3, h4⟩
    · exact .inl h
    · exact .inr ⟨a, len, cap, h1, h2, h3, fun i hi => let ⟨es, e1, e2, e3⟩ := h4 i hi; ⟨es, e1, e2, n, e3⟩⟩
theorem RdV.struct {fs : Array Field} (h : RdV P w t cs) (hu : P.underlying t = some (.struct fs)) : cs.length = P.cellsOf t ∧ ∀ f ∈ fs.toList, RdV P w f.type ((cs.drop f.offset).take (P.cellsOf f.type)) := by
  obtain ⟨n, h⟩ := h
  cases n with
  | zero => cases h
  | succ n =>
    simp only [Rd, hu] at h
    exact ⟨h.1, fun f hf => ⟨n, h.2 f hf⟩⟩
theorem RdV.array {m : Nat} {e : TypeId} (h : RdV P w t cs) (hu : P.underlying t = some (.array m e)) : cs.length = P.cellsOf t ∧ ∀ i, i < m → RdV P w e ((cs.drop (i * P.cellsOf e)).take (P.cellsOf e)) := by
  obtain ⟨n, h⟩ := h
  cases n with
  | zero => cases h
  | succ n =>
    simp only [Rd, hu] at h
    exact ⟨h.1, fun i hi => ⟨n, h.2 i hi⟩⟩
end
theorem okWide_array {P : Program} {w : World} {r : Reach} {base : Nat} {t : TypeId} {v : Value} {m : Nat} {e : TypeId} (ht : P.underlying t = some (.array m e)) (h : Value.okWide P w r base t v) : ∃ cs, v = .agg cs ∧ cs.size = P.cellsOf t := by
  simp only [Value.okWide, ht] at h
  obtain ⟨cs, h1, h2, _⟩ := h
  exact ⟨cs, h1, h2⟩
end Go.Proofs.YtomphgpplbekiaaGreat
