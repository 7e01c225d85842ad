/- What is known of the sizes of an argument that came in: each slice that it leads to holds only so many elements ('Z e len': len elements of type e). It follows of the claim's own reading and its bound. -/
import Derived.Test.YtomphgpplbekiaaGreatRead
import Derived.SizedLaws
namespace Go.Proofs.YtomphgpplbekiaaGreat
open Go.RowKit Go.ChangeShapes Go.WideShapes Go.ChangeAt

def RdZ (Z : TypeId → Nat → Prop) (P : Program) (w : World) : Nat → TypeId → List Value → Prop
  | 0, _, _ => False
  | n + 1, t, cs =>
    match P.underlying t with
    | some (.slice e) => cs = [.slice none 0 0] ∨ ∃ a len cap, cs = [.slice (some a) len cap] ∧ Z e len ∧
        ∀ i, i < len → ∃ es, es.length = P.cellsOf e ∧ (∀ j, j < P.cellsOf e → w.cell? ⟨a.block, a.off + (i * P.cellsOf e + j), none⟩ = es[j]?) ∧ RdZ Z P w n e es
    | some (.struct fs) => ∀ f ∈ fs.toList, RdZ Z P w n f.type ((cs.drop f.offset).take (P.cellsOf f.type))
    | some (.array m e) => ∀ i, i < m → RdZ Z P w n e ((cs.drop (i * P.cellsOf e)).take (P.cellsOf e))
    | _ => True
/-- What a bound on a datum says of its parts. -/
structure Kz {H : Type} (K : TypeId → DataW H → Prop) (Z : TypeId → Nat → Prop) (P : Program) : Prop where
  sl : ∀ t e es sp, P.underlying t = some (.slice e) → K t (.slice es sp) → Z e es.length ∧ ∀ d ∈ es, K e d
  st : ∀ t fs parts, P.underlying t = some (.struct fs) → K t (.agg parts) → ∀ (j : Nat) f d, fs.toList[j]? = some f → parts[j]? = some d → K f.type d
  ar : ∀ t m e parts, P.underlying t = some (.array m e) → K t (.agg parts) → ∀ d ∈ parts, K e d
theorem mapM_at {α β : Type} {f : α → Option β} : ∀ {l : List α} {r : List β}, l.mapM f = some r → ∀ (j : Nat) x, l[j]? = some x → ∃ y, f x = some y ∧ r[j]? = some y
  | [], r, _, j, x, hx => by simp at hx
  | a :: l, r, h, j, x, hx => by
    simp only [List.mapM_cons, Option.bind_eq_bind, Option.bind_eq_some_iff, Option.pure_def, Option.some.injEq] at h
    obtain ⟨y, hy, r', hr, rfl⟩ := h
    cases j with
    | zero => simp at hx; subst hx; exact ⟨y, hy, rfl⟩
    | succ j =>
      obtain ⟨z, h1, h2⟩ := mapM_at hr j x (by simpa using hx)
      exact ⟨z, h1, by simpa using h2⟩
theorem rdz_of_trod {H : Type} {enc : TypeId × Value → H} {P : Program} {w : World} {K : TypeId → DataW H → Prop} {Z : TypeId → Nat → Prop} (hK : Kz K Z P) : ∀ (n : Nat) (t : TypeId) (cs : List Value) (r : DataW H × List MemPlace), DataW.trod enc P w 0 (fun _ => true) true n t cs = some r → K t r.1 → RdZ Z P w n t cs
  | 0, _, _, _, h, _ => by simp [DataW.trod] at h
  | n + 1, t, cs, r, h, hk => by
    unfold DataW.trod at h
    unfold RdZ
    split at h
    case h_7 hu => simp only [hu]; first | exact .inl rfl | exact .inl trivial
    case h_8 e a len cap hu =>
      simp only [hu]
      split at h
      case isTrue hc =>
        simp only [Option.bind_eq_some_iff, Option.map_eq_some_iff] at h
        obtain ⟨elems, he, rest, hrest, rfl⟩ := h
        have hlen := (mapM_some he).1
        simp at hlen
        obtain ⟨hz, hall⟩ := hK.sl t _ _ _ hu hk
        simp only [List.length_map] at hz
        refine .inr ⟨a, len, cap, rfl, by rw [← hlen]; exact hz, fun i hi => ?_⟩
        obtain ⟨y, hy, hyi⟩ := mapM_at he i i (by simp [List.getElem?_range hi])
        simp only [Option.bind_eq_some_iff] at hy
        obtain ⟨es, hes, hy⟩ := hy
        simp only [World.cells?, Nat.zero_le, if_true] at hes
        have hl := (mapM_some hes).1
        simp at hl
        have hg := mapM_get hes
        refine ⟨es, hl, fun j hj => ?_, rdz_of_trod hK n e es _ hy (hall _ (List.mem_map.2 ⟨y, List.mem_of_getElem? hyi, rfl⟩))⟩
        have hsp : a.spot = none := by
          have : 0 < len := by omega
          obtain ⟨y0, hy0⟩ := (mapM_some he).2 0 (by simpa using this)
          simp only [Option.bind_eq_some_iff] at hy0
          obtain ⟨es0, hes0, _⟩ := hy0
          simp only [World.cells?, Nat.zero_le, if_true] at hes0
          have hg0 := mapM_get hes0 0 (by omega)
          have hl0 := (mapM_some hes0).1
          simp at hl0
          have : es0[0]? = some es0[0] := List.getElem?_eq_getElem (by omega)
          rw [this] at hg0
          have hg1 : w.cell? a = some es0[0] := by simpa [Addr.add] using hg0
          exact World.cell?_spot hg1
        have := hg j hj
        have e1 : es[j]? = some es[j] := List.getElem?_eq_getElem (by omega)
        rw [e1] at this ⊢
        exact add_spot this (fun _ => hsp)
      case isFalse => cases h
    case h_9 fs cs hu =>
      simp only [hu]
      split at h
      case isTrue hl =>
        intro f hf
        simp only [Option.map_eq_some_iff] at h
        obtain ⟨xs, hx, rfl⟩ := h
        obtain ⟨j, hj, rfl⟩ := List.getElem_of_mem hf
        obtain ⟨y, hy, hyj⟩ := mapM_at hx j _ (List.getElem?_eq_getElem hj)
        exact rdz_of_trod hK n _ _ _ hy (hK.st t _ _ hu hk j _ _ (List.getElem?_eq_getElem hj) (by simp [hyj]))
      case isFalse => cases h
    case h_10 m e cs hu =>
      simp only [hu]
      split at h
      case isTrue hl =>
        intro i hi
        simp only [Option.map_eq_some_iff] at h
        obtain ⟨xs, hx, rfl⟩ := h
        obtain ⟨y, hy, hyj⟩ := mapM_at hx i i (by simp [List.getElem?_range hi])
        exact rdz_of_trod hK n _ _ _ hy (hK.ar t _ _ _ hu hk _ (List.mem_map.2 ⟨y, List.mem_of_getElem? hyj, rfl⟩))
      case isFalse => cases h
    all_goals first | (rename_i hu; simp only [hu]) | (rename_i hu _; simp only [hu]) | (simp only [*]) | cases h
theorem weightsAll_mem {H : Type} {P : Program} {e : TypeId} {n : Nat} : ∀ {l : List (DataW H)} {d : DataW H}, d ∈ l → n ∈ d.weights P e → n ∈ DataW.weightsAll P e l
  | [], _, h, _ => by cases h
  | a :: l, d, h, hn => by
    simp only [DataW.weightsAll, List.mem_append]
    rcases List.mem_cons.1 h with rfl | h
    · exact .inl hn
    · exact .inr (weightsAll_mem h hn)
/-- By the bytes that each slice takes. -/
theorem kz_bytes {H : Type} (P : Program) (B : Nat) : Kz (H := H) (fun t d => ∀ x ∈ d.weights P t, x ≤ B) (fun e len => len * P.bytesOf e ≤ B) P where
  sl t e es sp hu h := by
    simp only [DataW.weights, hu, List.mem_cons, List.mem_append] at h
    refine ⟨?_, fun d hd x hx => h x (.inr (.inl (weightsAll_mem hd hx)))⟩
    have := h _ (.inl rfl)
    have h2 := Nat.mul_le_mul_right (P.bytesOf e) (Nat.le_add_right es.length sp.length)
    exact Nat.le_trans h2 this
  st t fs parts hu h j f d hf hd x hx := by
    simp only [DataW.weights, hu] at h
    exact h x (DataW.weights_mem_each (j := j) (by simp [hf]) hd x hx)
  ar t m e parts hu h d hd x hx := by
    simp only [DataW.weights, hu] at h
    exact h x (weightsAll_mem hd hx)
def RdZV (Z : TypeId → Nat → Prop) (P : Program) (w : World) (t : TypeId) (cs : List Value) : Prop := ∃ n, RdZ Z P w n t cs
theorem rdz_of_Trod {H : Type} {enc : TypeId × Value → H} {P : Program} {w : World} {t : TypeId} {v : Value} {d : DataW H} {ps : List MemPlace} {K : TypeId → DataW H → Prop} {Z : TypeId → Nat → Prop} (hK : Kz K Z P) (h : DataW.Trod enc P w 0 (fun _ => true) true t v d ps) (hd : K t d) : RdZV Z P w t v.cells.toList := by
  obtain ⟨n, h⟩ := h
  exact ⟨n, rdz_of_trod hK n _ _ _ h hd⟩
section
variable {P : Program} {w : World} {t : TypeId} {cs : List Value} {Z : TypeId → Nat → Prop}
theorem RdZV.slice {e : TypeId} (h : RdZV Z P w t cs) (hu : P.underlying t = some (.slice e)) : cs = [.slice none 0 0] ∨ ∃ a len cap, cs = [.slice (some a) len cap] ∧ Z e len ∧
    ∀ i, i < len → ∃ es, es.length = P.cellsOf e ∧ (∀ j, j < P.cellsOf e → w.cell? ⟨a.block, a.off + (i * P.cellsOf e + j), none⟩ = es[j]?) ∧ RdZV Z P w e es := by
  obtain ⟨n, h⟩ := h
  cases n with
  | zero => cases h
  | succ n =>
    simp only [RdZ, hu] at h
    rcases h with h | ⟨a, len, cap, h1, h2, h4⟩
    · exact .inl h
    · exact .inr ⟨a, len, cap, h1, h2, fun i hi => let ⟨es, e1, e2, e3⟩ := h4 i hi; ⟨es, e1, e2, n, e3⟩⟩
theorem RdZV.struct {fs : Array Field} (h : RdZV Z P w t cs) (hu : P.underlying t = some (.struct fs)) : ∀ f ∈ fs.toList, RdZV Z P w f.type ((cs.drop f.offset).take (P.cellsOf f.type)) := by
  obtain ⟨n, h⟩ := h
  cases n with
  | zero => cases h
  | succ n =>
    simp only [RdZ, hu] at h
    exact fun f hf => ⟨n, h f hf⟩
end
end Go.Proofs.YtomphgpplbekiaaGreat
