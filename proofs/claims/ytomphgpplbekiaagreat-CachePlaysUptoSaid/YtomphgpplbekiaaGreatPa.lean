/- Plain: what is laid in a cache; that the program's answers are the document's. Plain: the program's answers on a cache are the document's; how the blocks turn. Plain: what Put lays; the memory under a cache; what Drop lets go. Both caches side by side; the law's own keys and made. Both caches side by side: each call on both. The law's step: any call on both caches. The law's step: At, Out, Drop; any step. The law's step: Drop; any step. The laws on caches: the steps that came in; what holds of an exit of a live block. -/
import Derived.Test.YtomphgpplbekiaaGreatRfA
import Derived.Test.YtomphgpplbekiaaGreatCnO
import Derived.Test.YtomphgpplbekiaaGreatCnK
import Derived.Test.YtomphgpplbekiaaGreatReadZ
namespace Go.Proofs.YtomphgpplbekiaaGreat
open Go.RowKit

theorem rev_ind {α : Type} {P : List α → Prop} (h0 : P []) (h1 : ∀ l a, P l → P (l ++ [a])) (l : List α) : P l := by
  have : ∀ m : List α, P m.reverse := fun m => by
    induction m with
    | nil => exact h0
    | cons a m ih => rw [List.reverse_cons]; exact h1 _ _ ih
  have h := this l.reverse
  rwa [List.reverse_reverse] at h
theorem encL_pos (i : In) (h : Bool) : 0 < (encL i h).length := by simp [encL, headL]
/-- A laid block is the code of a block of instructions, its exits numbered from 'first' on. -/
def CodeOf (f : Fp) (first : Nat) : Prop := ∃ t : List It, (∀ x ∈ t, x.Good) ∧ PC (first : Int) t ∧ (cnt t = 1 ∨ cnt t = 2) ∧ f.bs = itB t ∧ f.rs = itR 0 t ∧ f.bs.length ≤ 400 ∧ f.rs.length ≤ 50
theorem itR_row {t : List It} {k : Nat} {r : Rw} (h : (itR 0 t)[k]? = some r) : ∃ y, t[k]? = some y ∧ r = ⟨((itB (t.take k)).length : Nat), y.pc, y.dn, y.ex⟩ := by
  have hk : k < t.length := by have := (List.getElem?_eq_some_iff.1 h).1; rwa [itR_len] at this
  have := itR_get t 0 k t[k] (List.getElem?_eq_getElem hk)
  rw [h] at this
  exact ⟨t[k], List.getElem?_eq_getElem hk, by simpa using this⟩
theorem itB_lt {t : List It} {i : Nat} : ∀ {j : Nat}, i < j → j ≤ t.length → (itB (t.take i)).length < (itB (t.take j)).length
  | 0, h, _ => by omega
  | j + 1, h, hj => by
    have h1 := take_next (List.getElem?_eq_getElem (by omega : j < t.length))
    have h2 := encL_pos t[j].i true
    rcases Nat.lt_or_eq_of_le (Nat.le_of_lt_succ h) with h3 | h3
    · have := itB_lt (t := t) h3 (by omega)
      omega
    · subst h3; omega
theorem itB_in {t : List It} {k : Nat} {y : It} (h : t[k]? = some y) : (itB (t.take k)).length + (encL y.i true).length ≤ (itB t).length := by
  have h1 := take_next h
  have hk := get_lt h
  rcases Nat.lt_or_eq_of_le (show k + 1 ≤ t.length by omega) with h2 | h2
  · have := itB_lt (t := t) h2 (Nat.le_refl _)
    rw [List.take_length] at this
    omega
  · rw [h2, List.take_length] at h1
    omega
theorem exL_cnt : ∀ (t : List It) (o : Int), (exL (itR o t)).length = cnt t
  | [], _ => rfl
  | a :: t, o => by
    have ih := exL_cnt t (o + (encL a.i true).length)
    simp only [itR, exL, cnt, List.filter_cons] at ih ⊢
    by_cases h : 0 ≤ a.ex <;> simp [h, ih]
theorem cnt_lt {t : List It} {k : Nat} {y : It} (h : t[k]? = some y) (hy : 0 ≤ y.ex) : cnt (t.take k) < cnt t := by
  have h1 := cnt_take h
  rw [if_pos hy] at h1
  have h2 := cnt_append (t.take (k + 1)) (t.drop (k + 1))
  rw [List.take_append_drop] at h2
  omega
theorem cnt_at : ∀ (t : List It) (m : Nat), m < cnt t → ∃ k y, t[k]? = some y ∧ 0 ≤ y.ex ∧ cnt (t.take k) = m
  | [], m, h => by simp [cnt] at h
  | a :: t, m, h => by
    have hc : cnt (a :: t) = (if 0 ≤ a.ex then 1 else 0) + cnt t := by
      by_cases ha : 0 ≤ a.ex <;> simp [cnt, ha]; omega
    by_cases ha : 0 ≤ a.ex
    · rw [if_pos ha] at hc
      cases m with
      | zero => exact ⟨0, a, rfl, ha, by simp [cnt]⟩
      | succ m =>
        obtain ⟨k, y, h1, h2, h3⟩ := cnt_at t m (by omega)
        exact ⟨k + 1, y, by simpa using h1, h2, by rw [List.take_succ_cons]; simp only [cnt] at h3 ⊢; simp [ha, h3]⟩
    · rw [if_neg ha] at hc
      obtain ⟨k, y, h1, h2, h3⟩ := cnt_at t m (by omega)
      exact ⟨k + 1, y, by simpa using h1, h2, by rw [List.take_succ_cons]; simp only [cnt] at h3 ⊢; simp [ha, h3]⟩
section
variable {f : Fp} {first : Nat}
theorem CodeOf.rise (h : CodeOf f first) : RiseR f.rs := by
  obtain ⟨t, -, -, -, -, h5, -⟩ := h
  rw [h5]
  refine List.pairwise_iff_getElem.2 fun i j hi hj hij => ?_
  obtain ⟨y, hy, e1⟩ := itR_row (List.getElem?_eq_getElem hi)
  obtain ⟨z, hz, e2⟩ := itR_row (List.getElem?_eq_getElem hj)
  have := itB_lt (t := t) hij (Nat.le_of_lt (get_lt hz))
  rw [e1, e2]
  simp only
  omega
theorem CodeOf.off (h : CodeOf f first) : ∀ r ∈ f.rs, 0 ≤ r.off ∧ r.off < (f.bs.length : Nat) := fun r hr => by
  obtain ⟨t, -, -, -, h4, h5, -⟩ := h
  rw [h5] at hr
  obtain ⟨k, hk, e⟩ := List.getElem_of_mem hr
  obtain ⟨y, hy, e1⟩ := itR_row (k := k) (r := r) (by rw [List.getElem?_eq_getElem hk, e])
  have h1 := itB_in hy
  have h2 := encL_pos y.i true
  rw [e1, h4]
  simp only
  omega
theorem CodeOf.exN_ (h : CodeOf f first) : exN f.rs = 1 ∨ exN f.rs = 2 := by
  obtain ⟨t, -, -, h3, -, h5, -⟩ := h
  rw [h5]
  unfold exN
  rw [exL_cnt]
  exact h3
theorem CodeOf.lens (h : CodeOf f first) : f.bs.length ≤ 400 ∧ f.rs.length ≤ 50 ∧ 0 < f.bs.length := by
  obtain ⟨t, -, -, h3, h4, h5, h6, h7⟩ := h
  refine ⟨h6, h7, ?_⟩
  obtain ⟨k, y, hy, -, -⟩ := cnt_at t 0 (by omega)
  have h1 := itB_in hy
  have h2 := encL_pos y.i true
  rw [h4]
  omega
theorem CodeOf.ex_in (h : CodeOf f first) {r : Rw} (hr : r ∈ f.rs) (he : 0 ≤ r.ex) : (first : Int) ≤ r.ex ∧ r.ex < (first : Int) + (exN f.rs : Nat) := by
  obtain ⟨t, -, h2, -, -, h5, -⟩ := h
  unfold exN
  rw [h5] at hr ⊢
  rw [exL_cnt]
  obtain ⟨k, hk, e⟩ := List.getElem_of_mem hr
  obtain ⟨y, hy, e1⟩ := itR_row (k := k) (r := r) (by rw [List.getElem?_eq_getElem hk, e])
  rw [e1] at he ⊢
  simp only at he ⊢
  obtain ⟨j, x, -, -, -, -, -, h6⟩ := h2 k y hy he
  have := cnt_lt hy he
  omega
theorem CodeOf.ex_at (h : CodeOf f first) {e : Int} (h0 : (first : Int) ≤ e) (h1 : e < (first : Int) + (exN f.rs : Nat)) : ∃ r ∈ f.rs, r.ex = e := by
  obtain ⟨t, -, h2, -, -, h5, -⟩ := h
  unfold exN at h1
  rw [h5] at h1 ⊢
  rw [exL_cnt] at h1
  obtain ⟨k, y, hy, he, hc⟩ := cnt_at t (e - first).toNat (by omega)
  obtain ⟨j, x, -, -, -, -, -, h6⟩ := h2 k y hy he
  exact ⟨_, List.mem_of_getElem? (itR_get t 0 k y hy), by simp only; omega⟩
theorem CodeOf.bytes (h : CodeOf f first) : ∀ y ∈ f.bs, 0 ≤ y ∧ y < 256 := by
  obtain ⟨t, h1, -, -, h4, -⟩ := h
  rw [h4]
  exact itB_bytes h1
/-- At an exit's place its OLeave stands. -/
theorem CodeOf.leave (h : CodeOf f first) {r : Rw} (hr : r ∈ f.rs) (he : 0 ≤ r.ex) : ∃ o : Nat, r.off = (o : Int) ∧ o + 3 ≤ f.bs.length ∧ f.bs[o]? = some 113 ∧ f.bs[o + 1]? = some (r.ex % 256) ∧ f.bs[o + 2]? = some (r.ex / 256 % 256) := by
  obtain ⟨t, h1, h2, -, h4, h5, -⟩ := h
  rw [h5] at hr
  obtain ⟨k, hk, e⟩ := List.getElem_of_mem hr
  obtain ⟨y, hy, e1⟩ := itR_row (k := k) (r := r) (by rw [List.getElem?_eq_getElem hk, e])
  rw [e1] at he ⊢
  simp only at he ⊢
  have hg := h1 y (List.mem_of_getElem? hy)
  have hlv : y.i.op = 113 ∧ y.i.imm = y.ex := by
    rcases hg.leave with h | h
    · exact ⟨h.1, h.2.1⟩
    · omega
  have hE : encL y.i true = [113, y.ex % 256, y.ex / 256 % 256] := by
    unfold encL headL
    rw [hlv.1, hlv.2, show formL 113 true = ⟨3, 0, 0, 2, 0⟩ from rfl]
    simp [immL]
  have hB : itB t = itB (t.take k) ++ (encL y.i true ++ itB (t.drop (k + 1))) := by
    conv => lhs; rw [split_at hy]
    rw [itB_append, itB_cons]
  have hl := itB_in hy
  rw [hE] at hl hB
  refine ⟨(itB (t.take k)).length, rfl, by rw [h4]; simpa using hl, ?_, ?_, ?_⟩
  · rw [h4, hB, List.getElem?_append_right (Nat.le_refl _)]; simp
  · rw [h4, hB, List.getElem?_append_right (by omega)]; simp
  · rw [h4, hB, List.getElem?_append_right (by omega)]; simp
end
/-- What holds of a cache's blocks. -/
structure Inv (n : Nat) (L : List Fp) : Prop where
  code : ∀ j f, L[j]? = some f → CodeOf f (ownL (L.take j)).length ∧ f.pos = ((usedL (L.take j) : Nat) : Int)
  nd : ((liveL L).map (·.1)).Nodup
  us : usedL L ≤ 64 * n
theorem Inv.nil (n : Nat) : Inv n [] := ⟨fun j f h => by simp at h, by simp [liveL], by simp [usedL]⟩
theorem usedL_take {L : List Fp} {j : Nat} {f : Fp} (h : L[j]? = some f) : usedL (L.take (j + 1)) = usedL (L.take j) + f.bs.length := by
  rw [List.take_add_one, h]
  simp [usedL]
theorem usedL_mono (L : List Fp) {i j : Nat} (h : i ≤ j) : usedL (L.take i) ≤ usedL (L.take j) := by
  have : L.take j = L.take i ++ (L.take j).drop i := by
    have := List.take_append_drop i (L.take j)
    rw [List.take_take, Nat.min_eq_left h] at this
    exact this.symm
  rw [this]
  simp [usedL]
theorem usedL_end (L : List Fp) (i : Nat) : usedL (L.take i) ≤ usedL L := by
  have := usedL_mono L (i := i) (j := max i L.length) (by omega)
  rw [List.take_of_length_le (by omega : L.length ≤ max i L.length)] at this
  exact this
theorem Inv.pos_in {n : Nat} {L : List Fp} (h : Inv n L) {j : Nat} {f : Fp} (hj : L[j]? = some f) : 0 ≤ f.pos ∧ f.pos + (f.bs.length : Nat) ≤ ((usedL L : Nat) : Int) ∧ usedL L ≤ 64 * n := by
  have h1 := (h.code j f hj).2
  have h2 := usedL_take hj
  have h3 := usedL_end L (j + 1)
  refine ⟨by omega, by omega, h.us⟩
theorem Inv.before {n : Nat} {L : List Fp} (h : Inv n L) {i j : Nat} {f g : Fp} (hi : L[i]? = some f) (hj : L[j]? = some g) (hij : i < j) : f.pos + (f.bs.length : Nat) ≤ g.pos := by
  have h1 := (h.code i f hi).2
  have h2 := (h.code j g hj).2
  have h3 := usedL_take hi
  have h4 := usedL_mono L (i := i + 1) (j := j) hij
  omega
theorem ownL_take {L : List Fp} {j : Nat} {f : Fp} (h : L[j]? = some f) : (ownL (L.take (j + 1))).length = (ownL (L.take j)).length + exN f.rs := by
  rw [List.take_add_one, h]
  simp only [Option.toList_some]
  rw [ownL_push]
  simp
theorem ownL_all : ∀ (L : List Fp) (e : Nat) (n : Int), (ownL L)[e]? = some n → ∃ j f, n = (j : Nat) ∧ L[j]? = some f ∧ (ownL (L.take j)).length ≤ e ∧ e < (ownL (L.take j)).length + exN f.rs := by
  refine rev_ind (fun e n h => by simp [ownL] at h) (fun L f ih => ?_)
  · intro e n h
    rw [ownL_push] at h
    by_cases he : e < (ownL L).length
    · rw [List.getElem?_append_left he] at h
      obtain ⟨j, g, h1, h2, h3, h4⟩ := ih e n h
      have hj := (List.getElem?_eq_some_iff.1 h2).1
      exact ⟨j, g, h1, by rw [List.getElem?_append_left hj]; exact h2, by rw [List.take_append_of_le_length (by omega)]; exact h3, by rw [List.take_append_of_le_length (by omega)]; exact h4⟩
    · rw [List.getElem?_append_right (by omega)] at h
      have hlt := (List.getElem?_eq_some_iff.1 h).1
      simp at hlt
      have hm := List.mem_of_getElem? h
      have := List.eq_of_mem_replicate hm
      exact ⟨L.length, f, this, by simp, by simp; omega, by simp; omega⟩
theorem ownL_at : ∀ (L : List Fp) (j : Nat) (f : Fp) (e : Nat), L[j]? = some f → (ownL (L.take j)).length ≤ e → e < (ownL (L.take j)).length + exN f.rs → (ownL L)[e]? = some (j : Int) := by
  refine rev_ind (fun j f e h => by simp at h) (fun L g ih => ?_)
  · intro j f e h h1 h2
    have hj := (List.getElem?_eq_some_iff.1 h).1
    simp at hj
    by_cases hjl : j < L.length
    · rw [List.getElem?_append_left hjl] at h
      rw [List.take_append_of_le_length (by omega)] at h1 h2
      have := ih j f e h h1 h2
      rw [ownL_push, List.getElem?_append_left (List.getElem?_eq_some_iff.1 this).1]
      exact this
    · obtain rfl : j = L.length := by omega
      simp at h h1 h2
      subst h
      rw [ownL_push, List.getElem?_append_right h1, List.getElem?_replicate, if_pos (by omega)]
theorem nodup_fst {α β : Type} {l : List (α × β)} (h : (l.map (·.1)).Nodup) {p q : α × β} (hp : p ∈ l) (hq : q ∈ l) (e : p.1 = q.1) : p = q := by
  induction l with
  | nil => cases hp
  | cons a l ih =>
    simp only [List.map_cons, List.nodup_cons, List.mem_map, not_exists, not_and] at h
    rcases List.mem_cons.1 hp with rfl | hp' <;> rcases List.mem_cons.1 hq with rfl | hq'
    · rfl
    · exact absurd e.symm (h.1 q hq')
    · exact absurd e (h.1 p hp')
    · exact ih h.2 hp' hq'
theorem live_mem {L : List Fp} {j : Nat} {f : Fp} (h : L[j]? = some f) (hl : f.live = true) : ((f.k1, f.k2), (j : Int)) ∈ liveL L := by
  unfold liveL
  refine List.mem_map.2 ⟨(f, j), List.mem_filter.2 ⟨?_, hl⟩, rfl⟩
  rw [List.mem_iff_getElem?]
  exact ⟨j, by simp [List.getElem?_zipIdx, h]⟩
theorem idx_self {L : List Fp} (hnd : ((liveL L).map (·.1)).Nodup) {j : Nat} {f : Fp} (h : L[j]? = some f) (hl : f.live = true) : idxL L (f.k1, f.k2) = some j := by
  cases hq : idxL L (f.k1, f.k2) with
  | none =>
    unfold idxL at hq
    rw [List.findIdx?_eq_none_iff] at hq
    have := hq f (List.mem_of_getElem? h)
    simp [hitB, hl] at this
  | some i =>
    obtain ⟨g, hg, h1, h2, h3⟩ := idxL_some hq
    have := nodup_fst hnd (live_mem hg h1) (live_mem h hl) (by simp only [h2, h3])
    simp only [Prod.mk.injEq] at this
    rw [show i = j by omega]
end Go.Proofs.YtomphgpplbekiaaGreat
namespace Go.Proofs.YtomphgpplbekiaaGreat
open Go.RowKit

def ownF (L : List Fp) (e : Int) : Option Fp := if 0 ≤ e then ((ownL L)[e.toNat]?).bind fun n => (L[n.toNat]?).filter fun f => f.live else none
def rowF (f : Fp) (ex : Int) : Option Rw := if f.live then f.rs.find? (fun r => r.ex == ex) else none
def refF (L : List Fp) (ex : Int) : Option (Fp × Rw) := L.findSome? fun f => (rowF f ex).map fun r => (f, r)
theorem findSome_map1 {p : Fb → Option Rw} {q : Fp → Option Rw} (h : ∀ x, p x = q x.1) : ∀ l : List Fb, (l.findSome? fun x => (p x).map fun r => (x, r)).map (fun p => (p.1.1, p.2)) = (pl l).findSome? fun f => (q f).map fun r => (f, r)
  | [] => rfl
  | x :: l => by
    have ih := findSome_map1 h l
    simp only [List.findSome?_cons, pl, List.map_cons] at ih ⊢
    rw [← h x]
    cases p x with
    | none => simpa using ih
    | some r => rfl
theorem findSome_one {α β : Type} {p : α → Option β} : ∀ (L : List α) (k : Nat), (∀ i f, L[i]? = some f → i ≠ k → p f = none) → L.findSome? p = (L[k]?).bind p
  | [], k, _ => by simp
  | a :: L, 0, h => by
    rw [List.findSome?_cons]
    cases hp : p a with
    | some b => simp [hp]
    | none =>
      simp only [List.getElem?_cons_zero, Option.bind_some, hp]
      rw [List.findSome?_eq_none_iff]
      intro x hx
      obtain ⟨i, hi, rfl⟩ := List.getElem_of_mem hx
      exact h (i + 1) _ (by simp [List.getElem?_eq_getElem hi]) (by omega)
  | a :: L, k + 1, h => by
    have h0 := h 0 a rfl (by omega)
    rw [List.findSome?_cons, h0, List.getElem?_cons_succ]
    exact findSome_one L k fun i f hi hne => h (i + 1) f (by simpa using hi) (by omega)
section
variable {n : Nat} {L : List Fp} {l l' : List Fb}
/-- The live block of an exit, and its row. -/
theorem Inv.own (h : Inv n L) {e : Nat} {m : Int} (hm : (ownL L)[e]? = some m) : ∃ j f, m = (j : Nat) ∧ L[j]? = some f ∧ (∃ r ∈ f.rs, r.ex = (e : Int)) ∧ ∀ i g, L[i]? = some g → i ≠ j → ∀ r ∈ g.rs, r.ex ≠ (e : Int) := by
  obtain ⟨j, f, h1, h2, h3, h4⟩ := ownL_all L e m hm
  refine ⟨j, f, h1, h2, (h.code j f h2).1.ex_at (by omega) (by omega), fun i g hg hne r hr he => ?_⟩
  have h5 := (h.code i g hg).1.ex_in hr (by omega)
  have h6 := ownL_at L i g e hg (by omega) (by omega)
  rw [h6, h1] at hm
  simp at hm
  omega
theorem Inv.out (h : Inv n L) (ex : Int) : (if ex < 0 then none else refF L ex) = (ownF L ex).bind fun f => (f.rs.find? fun r => r.ex == ex).map fun r => (f, r) := by
  unfold ownF
  by_cases hx : ex < 0
  · rw [if_pos hx, if_neg (by omega)]; rfl
  rw [if_neg hx, if_pos (by omega)]
  obtain ⟨e, rfl⟩ := Int.eq_ofNat_of_zero_le (show 0 ≤ ex by omega)
  have het : ((e : Int)).toNat = e := by omega
  rw [het]
  unfold refF
  cases hm : (ownL L)[e]? with
  | none =>
    simp only [Option.bind_none]
    rw [List.findSome?_eq_none_iff]
    intro f hf
    obtain ⟨j, hj, rfl⟩ := List.getElem_of_mem hf
    unfold rowF
    split
    · rw [Option.map_eq_none_iff, List.find?_eq_none]
      intro r hr he
      have he : r.ex = (e : Int) := by simpa using he
      have h5 := (h.code j _ (List.getElem?_eq_getElem hj)).1.ex_in hr (by omega)
      have h6 := ownL_at L j _ e (List.getElem?_eq_getElem hj) (by omega) (by omega)
      rw [h6] at hm
      cases hm
    · rfl
  | some m =>
    obtain ⟨j, f, rfl, h2, h3, h4⟩ := h.own hm
    rw [findSome_one L j fun i g hg hne => by
      unfold rowF
      split
      · rw [Option.map_eq_none_iff, List.find?_eq_none]
        intro r hr he
        exact h4 i g hg hne r hr (by simpa using he)
      · rfl]
    simp only [Option.bind_some]
    rw [show ((j : Int)).toNat = j by omega, h2]
    simp only [Option.bind_some, Option.filter]
    unfold rowF
    by_cases hl : f.live = true
    · rw [if_pos hl, if_pos hl]; rfl
    · rw [if_neg hl, if_neg hl]; rfl
theorem outV_of (l : List Fb) (ex : Int) : outV l ex = (match (ownF (pl l) ex).bind fun f => (f.rs.find? fun r => r.ex == ex).map fun r => (f, r) with
    | some (f, r) => .tuple #[.agg #[.int .u32 f.k1, .int .u32 f.k2, .int .i64 (f.pos + r.off), .int .u32 r.pc], .bool true]
    | none => .tuple #[.agg outZ, .bool false]) ∧ asksB l ex = (match ownF (pl l) ex with | some f => f.fin == 4 | none => false) := by
  have he : ownF (pl l) ex = (ownedL l ex).map (·.1) := by
    unfold ownF ownedL
    by_cases h0 : 0 ≤ ex
    · rw [if_pos h0, if_pos h0]
      cases (ownL (pl l))[ex.toNat]? with
      | none => rfl
      | some m =>
        simp only [Option.bind_some, pl, List.getElem?_map]
        cases l[m.toNat]? with
        | none => rfl
        | some x =>
          cases hl : x.1.live <;> simp [Option.filter, hl]
    · rw [if_neg h0, if_neg h0]; rfl
  rw [he]
  unfold outV asksB
  cases ownedL l ex with
  | none => exact ⟨rfl, rfl⟩
  | some x =>
    refine ⟨?_, rfl⟩
    simp only [Option.map_some, Option.bind_some]
    cases x.1.rs.find? fun r => r.ex == ex <;> rfl
theorem refOutV_of (l : List Fb) (ex : Int) : refOutV l ex = (match (if ex < 0 then none else refF (pl l) ex) with
    | some (f, r) => .tuple #[.agg #[.int .u32 f.k1, .int .u32 f.k2], .int .i64 (f.pos + r.off), .int .u32 r.pc, .bool true]
    | none => .tuple #[.agg #[.int .u32 0, .int .u32 0], .int .i64 0, .int .u32 0, .bool false]) := by
  unfold refOutV
  by_cases h0 : ex < 0
  · rw [if_pos h0, if_pos h0]
  · rw [if_neg h0, if_neg h0]
    have h1 : (refOut l ex).map (fun p => (p.1.1, p.2)) = refF (pl l) ex := findSome_map1 (p := fun x => rowOf x ex) (q := fun f => rowF f ex) (fun x => rfl) l
    rw [← h1]
    cases refOut l ex <;> rfl
/-- Both answer alike on an exit. -/
theorem out_alike (h : Inv n (pl l)) (he : pl l = pl l') (ex : Int) : ∃ q1 q2 o p b, outV l ex = .tuple #[.agg #[.int .u32 q1, .int .u32 q2, .int .i64 o, .int .u32 p], .bool b] ∧ refOutV l' ex = .tuple #[.agg #[.int .u32 q1, .int .u32 q2], .int .i64 o, .int .u32 p, .bool b] := by
  rw [(outV_of l ex).1, refOutV_of, ← he, h.out ex]
  cases (ownF (pl l) ex).bind fun f => (f.rs.find? fun r => r.ex == ex).map fun r => (f, r) with
  | none => exact ⟨0, 0, 0, 0, false, rfl, rfl⟩
  | some p => exact ⟨_, _, _, _, true, rfl, rfl⟩
theorem refAsksB_of (l : List Fb) (ex : Int) : refAsksB l ex = (match (if ex < 0 then none else refF (pl l) ex) with
    | some (f, _) => (match idxL (pl l) (f.k1, f.k2) with | some j => (match (pl l)[j]? with | some g => g.fin == 4 | none => false) | none => false)
    | none => false) := by
  unfold refAsksB
  by_cases h0 : ex < 0
  · rw [if_pos h0, if_pos h0]
  · rw [if_neg h0, if_neg h0]
    have h1 : (refOut l ex).map (fun p => (p.1.1, p.2)) = refF (pl l) ex := findSome_map1 (p := fun x => rowOf x ex) (q := fun f => rowF f ex) (fun x => rfl) l
    rw [← h1]
    cases refOut l ex with
    | none => rfl
    | some p =>
      simp only [Option.map_some]
      cases idxL (pl l) (p.1.1.k1, p.1.1.k2) with
      | none => rfl
      | some j =>
        simp only [pl, List.getElem?_map]
        cases l[j]? <;> rfl
theorem ownF_at {L : List Fp} {ex : Int} {f : Fp} (h : ownF L ex = some f) : f.live = true ∧ ∃ j : Nat, L[j]? = some f := by
  unfold ownF at h
  split at h
  · simp only [Option.bind_eq_some_iff, Option.filter_eq_some_iff] at h
    obtain ⟨m, -, hx, hl⟩ := h
    exact ⟨hl, _, hx⟩
  · cases h
theorem asks_alike (h : Inv n (pl l)) (he : pl l = pl l') (ex : Int) : asksB l ex = refAsksB l' ex := by
  rw [(outV_of l ex).2, refAsksB_of, ← he, h.out ex]
  cases hq : ownF (pl l) ex with
  | none => rfl
  | some f =>
    obtain ⟨hl, j, hj⟩ := ownF_at hq
    have hr : ∃ r, f.rs.find? (fun r => r.ex == ex) = some r := by
      unfold ownF at hq
      by_cases h0 : 0 ≤ ex
      · rw [if_pos h0] at hq
        simp only [Option.bind_eq_some_iff, Option.filter_eq_some_iff] at hq
        obtain ⟨m, hm, hx, -⟩ := hq
        obtain ⟨i, g, rfl, h2, ⟨r, hr, hre⟩, -⟩ := h.own hm
        rw [show ((i : Int)).toNat = i by omega, h2] at hx
        cases hx
        cases hf : f.rs.find? (fun r => r.ex == ex) with
        | some r => exact ⟨r, rfl⟩
        | none =>
          rw [List.find?_eq_none] at hf
          exact absurd (by rw [hre]; simp; omega) (hf r hr)
      · rw [if_neg h0] at hq; cases hq
    obtain ⟨r, hr⟩ := hr
    simp only [Option.bind_some, hr, Option.map_some]
    rw [idx_self h.nd hj hl]
    simp only [hj]
def atF (f : Fp) (off : Int) : Option Rw := if f.live && decide (f.pos ≤ off) && decide (off < f.pos + (f.bs.length : Nat)) then f.rs.find? (fun q => q.off == off - f.pos) else none
/-- Both answer alike on a place. -/
theorem at_alike (h : Inv n (pl l)) (he : pl l = pl l') (off : Int) (r : Nat) (hr : r ≤ l.length) (h1 : ∀ k x, l[k]? = some x → k < r → x.1.pos ≤ off) (h2 : ∀ k x, l[k]? = some x → r ≤ k → off < x.1.pos) : atV l off r = refAtV l' off := by
  have hm : (refAt l' off).map (fun p => (p.1.1, p.2)) = (pl l').findSome? fun f => (atF f off).map fun q => (f, q) := findSome_map1 (p := fun x => atR x off) (q := fun f => atF f off) (fun x => rfl) l'
  rw [← he] at hm
  have hV : refAtV l' off = (match (pl l).findSome? fun f => (atF f off).map fun q => (f, q) with
      | some (f, q) => .tuple #[.agg #[.int .u32 f.k1, .int .u32 f.k2], rwV q, .bool true]
      | none => at0) := by
    unfold refAtV
    rw [← hm]
    cases refAt l' off <;> rfl
  have H1 : ∀ k f, (pl l)[k]? = some f → k < r → f.pos ≤ off := fun k f hf hk => by
    obtain ⟨x, hx, rfl⟩ := pl_at hf
    exact h1 k x hx hk
  have H2 : ∀ k f, (pl l)[k]? = some f → r ≤ k → off < f.pos := fun k f hf hk => by
    obtain ⟨x, hx, rfl⟩ := pl_at hf
    exact h2 k x hx hk
  rw [hV]
  cases r with
  | zero =>
    rw [List.findSome?_eq_none_iff.2 fun f hf => ?_]
    · rfl
    · obtain ⟨j, hj, rfl⟩ := List.getElem_of_mem hf
      have := H2 j _ (List.getElem?_eq_getElem hj) (by omega)
      unfold atF
      rw [decide_eq_false (show ¬ (pl l)[j].pos ≤ off by omega)]
      simp
  | succ k =>
    obtain ⟨x, hx⟩ : ∃ x, l[k]? = some x := ⟨_, List.getElem?_eq_getElem (by omega)⟩
    have hf : (pl l)[k]? = some x.1 := by simp [pl, hx]
    rw [findSome_one (pl l) k fun i g hg hne => ?_]
    · rw [hf]
      simp only [Option.bind_some, atV, hx]
      have hp := H1 k _ hf (by omega)
      unfold atF
      cases hl : x.1.live with
      | false => simp
      | true =>
        simp only [Bool.true_and, decide_eq_true hp, if_true]
        by_cases hlt : off < x.1.pos + (x.1.bs.length : Nat)
        · simp only [decide_eq_true hlt, if_true]
          cases x.1.rs.find? fun q => q.off == off - x.1.pos <;> rfl
        · rw [decide_eq_false hlt]
          have hn : x.1.rs.find? (fun q => q.off == off - x.1.pos) = none := by
            rw [List.find?_eq_none]
            intro q hq e
            have := (h.code k _ hf).1.off q hq
            have : q.off = off - x.1.pos := by simpa using e
            omega
          rw [hn]
          rfl
    · unfold atF
      rcases Nat.lt_or_gt_of_ne hne with hlt | hgt
      · have h3 := h.before hg hf hlt
        have h4 := H1 k _ hf (by omega)
        rw [decide_eq_false (show ¬ off < g.pos + (g.bs.length : Nat) by omega)]
        simp
      · have h3 := H2 i _ hg (by omega)
        rw [decide_eq_false (show ¬ g.pos ≤ off by omega)]
        simp
theorem Inv.rise (h : Inv n (pl l)) : RiseP l := by
  refine List.pairwise_iff_getElem.2 fun i j hi hj hij => ?_
  have h1 : (pl l)[i]? = some l[i].1 := by simp [pl, List.getElem?_eq_getElem hi]
  have h2 : (pl l)[j]? = some l[j].1 := by simp [pl, List.getElem?_eq_getElem hj]
  have h3 := h.before h1 h2 hij
  have h4 := (h.code i _ h1).1.lens
  omega
/-- What the walks ask of the blocks. -/
theorem Inv.asked (h : Inv n (pl l)) (hn : n ≤ 512) : ∀ x ∈ l, 0 ≤ x.1.pos ∧ x.1.pos ≤ 1000000 ∧ x.1.bs.length ≤ 5000 ∧ x.1.rs.length ≤ 5000 ∧ RiseR x.1.rs ∧ ∀ r ∈ x.1.rs, 0 ≤ r.off ∧ r.off ≤ 1000000 := fun x hx => by
  obtain ⟨j, hj, rfl⟩ := List.getElem_of_mem hx
  have h1 : (pl l)[j]? = some l[j].1 := by simp [pl, List.getElem?_eq_getElem hj]
  have h2 := h.pos_in h1
  have h3 := (h.code j _ h1).1
  have h4 := h3.lens
  refine ⟨h2.1, by omega, by omega, by omega, h3.rise, fun r hr => ?_⟩
  have := h3.off r hr
  omega
theorem Inv.own_len (h : Inv n L) : (ownL L).length ≤ 2 * L.length := by
  rw [ownL_len]
  have : ∀ (M : List Fp), (∀ f ∈ M, exN f.rs ≤ 2) → (M.map fun f => exN f.rs).sum ≤ 2 * M.length := fun M => by
    induction M with
    | nil => simp
    | cons a M ih =>
      intro hm
      have h1 := hm a (by simp)
      have h2 := ih fun f hf => hm f (by simp [hf])
      simp only [List.map_cons, List.sum_cons, List.length_cons]
      omega
  refine this L fun f hf => ?_
  obtain ⟨j, hj, rfl⟩ := List.getElem_of_mem hf
  have := (h.code j _ (List.getElem?_eq_getElem hj)).1.exN_
  omega
/-- One block more. -/
theorem Inv.push (h : Inv n L) {f : Fp} (hc : CodeOf f (ownL L).length) (hp : f.pos = ((usedL L : Nat) : Int)) (hk : idxL L (f.k1, f.k2) = none) (hu : usedL L + f.bs.length ≤ 64 * n) (hl : f.live = true) : Inv n (L ++ [f]) := by
  refine ⟨fun j g hg => ?_, ?_, by rw [usedL_push]; exact hu⟩
  · have hj := (List.getElem?_eq_some_iff.1 hg).1
    simp at hj
    by_cases hjl : j < L.length
    · rw [List.getElem?_append_left hjl] at hg
      rw [List.take_append_of_le_length (by omega)]
      exact h.code j g hg
    · obtain rfl : j = L.length := by omega
      simp at hg
      subst hg
      simp only [List.take_left']
      exact ⟨hc, hp⟩
  · rw [liveL_push L f hl, List.map_append, List.nodup_append]
    refine ⟨h.nd, by simp, fun a ha b hb e => ?_⟩
    simp at hb
    subst e hb
    obtain ⟨p, hp, e⟩ := List.mem_map.1 ha
    unfold liveL at hp
    obtain ⟨q, hq, rfl⟩ := List.mem_map.1 hp
    obtain ⟨hq1, hq2⟩ := List.mem_filter.1 hq
    have hm : q.1 ∈ L := by
      have := List.mem_zipIdx hq1
      rw [this.2.2]
      exact List.getElem_mem _
    unfold idxL at hk
    rw [List.findIdx?_eq_none_iff] at hk
    have := hk q.1 hm
    simp only [Prod.mk.injEq] at e
    simp [hitB, hq2, e.1, e.2] at this
/-- A block let go. -/
theorem Inv.dead (h : Inv n L) {k : Nat} {f : Fp} (hf : L[k]? = some f) : Inv n (L.set k (deadF f)) := by
  have hlt := (List.getElem?_eq_some_iff.1 hf).1
  have hto : ∀ j, ownL ((L.set k (deadF f)).take j) = ownL (L.take j) ∧ usedL ((L.set k (deadF f)).take j) = usedL (L.take j) := fun j => by
    rw [List.take_set]
    by_cases hkj : k < j
    · have h1 : (L.take j)[k]? = some f := by rw [List.getElem?_take, if_pos hkj]; exact hf
      exact ⟨ownL_dead h1, usedL_dead h1⟩
    · rw [List.set_eq_of_length_le (by simp; omega)]
      exact ⟨rfl, rfl⟩
  refine ⟨fun j g hg => ?_, ?_, by rw [usedL_dead hf]; exact h.us⟩
  · rw [(hto j).1, (hto j).2]
    rw [List.getElem?_set] at hg
    by_cases hkj : k = j
    · subst hkj
      rw [if_pos rfl, if_pos hlt] at hg
      cases hg
      exact h.code k f hf
    · rw [if_neg hkj] at hg
      exact h.code j g hg
  · cases hl : f.live with
    | true =>
      rw [liveL_dead hf hl h.nd]
      exact List.Nodup.sublist ((List.eraseP_sublist (l := liveL L)).map _) h.nd
    | false =>
      have : L.set k (deadF f) = L := set_same (by rw [hf]; congr 1; unfold deadF; rw [← hl])
      rw [this]
      exact h.nd
end
end Go.Proofs.YtomphgpplbekiaaGreat
namespace Go.Proofs.YtomphgpplbekiaaGreat
open Go.RowKit

theorem code_put {w : World} {b : Bk} (hb : b.Ok w) (hm : mayBlk b = true) (L : List Fp) (k : Int × Int) (xs : List Int) (hl : (ownL L).length ≤ 65534) : CodeOf (fpOf L k b xs) (ownL L).length := by
  have hg := good_of hm
  have hx : ∀ k, k < b.n → (b.X k).Ok := by
    rcases hb.ins with h | ⟨S, o, -, -, h⟩
    · intro k hk; omega
    · exact fun k hk => (h k hk).1
  have ht := tr_it hg ((ownL L).length : Nat) (by omega) (by omega)
  have hc := trI_counts b ((ownL L).length : Nat) (by omega)
  have hlen := trC_len hg ((ownL L).length : Nat)
  refine ⟨trI b ((ownL L).length : Nat), trI_good hg hx hb.n0 hb.n1 _ (by omega) (by omega), hc.1, by rw [hc.2]; split <;> simp, ?_, ?_, hlen.1, hlen.2⟩
  · show (trC b _).1 = _
    rw [ht]; rfl
  · show (trC b _).2 = _
    rw [ht]; rfl
/-- The blocks' bytes lie in the memory. -/
def Lies (R : RamAt) (M : List Int) (L : List Fp) : Prop := ∀ (j : Nat) (f : Fp), L[j]? = some f → ∀ (i : Nat) (y : Int), f.bs[i]? = some y → R.get M (f.pos.toNat + i) = y
theorem ram_inj {w : World} {R : RamAt} {M : List Int} (H : IsRam w R M) : ∀ i j, i < 64 * R.n → j < 64 * R.n → R.pos i = R.pos j → i = j := by
  intro i j hi hj e
  unfold RamAt.pos at e
  have h1 : R.F (i / 64) = R.F (j / 64) := by omega
  have := H.inj (i / 64) (j / 64) (by omega) (by omega) h1
  omega
theorem put_get {R : RamAt} (hinj : ∀ i j, i < 64 * R.n → j < 64 * R.n → R.pos i = R.pos j → i = j) : ∀ (l : List Int) (M : List Int) (a : Nat), (∀ i, i < 64 * R.n → R.pos i < M.length) → a + l.length ≤ 64 * R.n → ∀ i, i < 64 * R.n → R.get (R.put M a l) i = if a ≤ i ∧ i < a + l.length then l.getD (i - a) 0 else R.get M i
  | [], M, a, _, _, i, _ => by
    simp only [RamAt.put, List.length_nil]
    rw [if_neg (by omega)]
  | x :: l, M, a, hlt, ha, i, hi => by
    simp only [List.length_cons] at ha
    simp only [RamAt.put]
    rw [put_get hinj l (M.set (R.pos a) x) (a + 1) (by simpa using hlt) (by omega) i hi]
    by_cases hia : i = a
    · subst hia
      rw [if_neg (by omega), if_pos (by simp)]
      unfold RamAt.get
      simp [List.getD_eq_getElem?_getD, List.getElem?_set_self (hlt i hi)]
    · have hne : R.pos a ≠ R.pos i := fun e => hia (hinj a i (by omega) hi e).symm
      by_cases hin : a + 1 ≤ i ∧ i < a + 1 + l.length
      · rw [if_pos hin, if_pos (by simp only [List.length_cons]; omega)]
        obtain ⟨j, rfl⟩ : ∃ j, i = a + 1 + j := ⟨i - a - 1, by omega⟩
        rw [show a + 1 + j - (a + 1) = j by omega, show a + 1 + j - a = j + 1 by omega]
        simp [List.getD_eq_getElem?_getD]
      · rw [if_neg hin, if_neg (by simp only [List.length_cons]; omega)]
        unfold RamAt.get
        rw [List.getD_eq_getElem?_getD, List.getElem?_set_ne hne, ← List.getD_eq_getElem?_getD]
theorem Lies.nil (R : RamAt) (M : List Int) : Lies R M [] := fun j f h => by simp at h
theorem Lies.put {w : World} {R : RamAt} {M : List Int} {L : List Fp} (H : IsRam w R M) (hI : Inv R.n L) (h : Lies R M L) {f : Fp} (hp : f.pos = ((usedL L : Nat) : Int)) (hu : usedL L + f.bs.length ≤ 64 * R.n) : Lies R (R.put M (usedL L) f.bs) (L ++ [f]) := by
  intro j g hg i y hy
  have hj := (List.getElem?_eq_some_iff.1 hg).1
  have hyl := (List.getElem?_eq_some_iff.1 hy).1
  simp at hj
  by_cases hjl : j < L.length
  · rw [List.getElem?_append_left hjl] at hg
    have h1 := hI.pos_in hg
    rw [put_get (ram_inj H) _ _ _ (fun i hi => H.lt hi) hu _ (by omega), if_neg (by omega)]
    exact h j g hg i y hy
  · obtain rfl : j = L.length := by omega
    simp at hg
    subst hg
    rw [put_get (ram_inj H) _ _ _ (fun i hi => H.lt hi) hu _ (by omega), if_pos (by omega), hp, show (((usedL L : Nat) : Int)).toNat + i - usedL L = i by omega, List.getD_eq_getElem?_getD, hy]
    rfl
theorem Lies.dead {R : RamAt} {M : List Int} {L : List Fp} (h : Lies R M L) {k : Nat} {f : Fp} (hf : L[k]? = some f) : Lies R M (L.set k (deadF f)) := by
  intro j g hg
  rw [List.getElem?_set] at hg
  by_cases hkj : k = j
  · subst hkj
    rw [if_pos rfl, if_pos (List.getElem?_eq_some_iff.1 hf).1] at hg
    cases hg
    exact h k f hf
  · rw [if_neg hkj] at hg
    exact h j g hg
section
variable {l l' : List Fb} {f : Int}
theorem pl_get {j : Nat} : (pl l)[j]? = (l[j]?).map (·.1) := by simp [pl]
theorem hasf_pl (he : pl l = pl l') (j : Nat) : hasf l f j = hasf l' f j := by
  have h : ∀ l : List Fb, hasf l f j = (((pl l)[j]?).map fun x => hasI x.frs f).getD false := fun l => by
    unfold hasf
    rw [pl_get]
    cases l[j]? <;> rfl
  rw [h l, h l', he]
theorem keyAt_pl (he : pl l = pl l') (j : Nat) : keyAt l j = keyAt l' j := by
  have h : ∀ l : List Fb, keyAt l j = (((pl l)[j]?).map fun x => [Value.int .u32 x.k1, Value.int .u32 x.k2]).getD [] := fun l => by
    unfold keyAt
    rw [pl_get]
    cases l[j]? <;> rfl
  rw [h l, h l', he]
theorem liveAt_pl (he : pl l = pl l') (j : Nat) : liveAt l j = liveAt l' j := by
  have h : ∀ l : List Fb, liveAt l j = (((pl l)[j]?).map fun x => x.live).getD false := fun l => by
    unfold liveAt
    rw [pl_get]
    cases l[j]? <;> rfl
  rw [h l, h l', he]
theorem len_pl (he : pl l = pl l') : l.length = l'.length := by rw [← pl_len l, he, pl_len]
theorem liveIdx_pl (he : pl l = pl l') (k : Nat) : liveIdx l k = liveIdx l' k := by
  unfold liveIdx
  congr 1
  funext j
  exact liveAt_pl he j
theorem dropK_pl (he : pl l = pl l') (pre : List Nat) : dropK l f pre = dropK l' f pre := by
  unfold dropK
  rw [show hasf l f = hasf l' f from funext (hasf_pl he), show keyAt l = keyAt l' from funext (keyAt_pl he)]
theorem keysL_pl (he : pl l = pl l') : keysL l = keysL l' := by
  unfold keysL
  rw [liveIdx_pl he, len_pl he, show keyAt l = keyAt l' from funext (keyAt_pl he)]
theorem dropTo_pl (he : pl l = pl l') : ∀ pre : List Nat, pl (dropTo l f pre) = pl (dropTo l' f pre) := by
  refine rev_ind (by simpa [dropTo] using he) fun pre j ih => ?_
  rw [dropTo_snoc, dropTo_snoc]
  unfold dropStep
  rw [hasf_pl he]
  split
  · have hj : (l[j]?).map (·.1) = (l'[j]?).map (·.1) := by rw [← pl_get, ← pl_get, he]
    cases h1 : l[j]? with
    | none =>
      rw [h1] at hj
      cases h2 : l'[j]? with
      | none => exact ih
      | some y => rw [h2] at hj; cases hj
    | some x =>
      rw [h1] at hj
      cases h2 : l'[j]? with
      | none => rw [h2] at hj; cases hj
      | some y =>
        rw [h2] at hj
        simp at hj
        simp only
        rw [pl_dead, pl_dead, ih, hj]
  · exact ih
theorem dropTo_at : ∀ (pre : List Nat) (j : Nat) (y : Fb), (dropTo l f pre)[j]? = some y → ∃ x, l[j]? = some x ∧ (y = x ∨ y = deadB x) := by
  refine rev_ind (fun j y h => ⟨y, by simpa [dropTo] using h, .inl rfl⟩) fun pre k ih j y h => ?_
  rw [dropTo_snoc] at h
  unfold dropStep at h
  split at h
  · split at h
    · next x hx =>
      rw [List.getElem?_set] at h
      by_cases hkj : k = j
      · subst hkj
        split at h
        · split at h
          · cases h
            exact ⟨x, hx, .inr rfl⟩
          · cases h
        · exact ih k y h
      · rw [if_neg hkj] at h
        exact ih j y h
    · exact ih j y h
  · exact ih j y h
/-- What one let go at a time keeps, is kept. -/
theorem dropTo_keeps {P : List Fp → Prop} (h : ∀ L k g, L[k]? = some g → P L → P (L.set k (deadF g))) (h0 : P (pl l)) : ∀ pre : List Nat, P (pl (dropTo l f pre)) := by
  refine rev_ind (by simpa [dropTo] using h0) fun pre j ih => ?_
  rw [dropTo_snoc]
  unfold dropStep
  split
  · cases hx : l[j]? with
    | none => exact ih
    | some x =>
      simp only
      rw [pl_dead]
      have hlt : j < (dropTo l f pre).length := by rw [dropTo_len]; exact (List.getElem?_eq_some_iff.1 hx).1
      obtain ⟨y, hy⟩ : ∃ y, (dropTo l f pre)[j]? = some y := ⟨_, List.getElem?_eq_getElem hlt⟩
      obtain ⟨x', hx', e⟩ := dropTo_at pre j y hy
      rw [hx] at hx'
      cases hx'
      have := h (pl (dropTo l f pre)) j y.1 (by rw [pl_get, hy]; rfl) ih
      rcases e with rfl | rfl
      · exact this
      · exact this
  · exact ih
theorem dropTo_ro {pre : List Nat} {y : Fb} (hy : y ∈ dropTo l f pre) : ∃ x ∈ l, ∀ k, ROk y k → ROk x k := by
  obtain ⟨x, hx, e2, e3⟩ := dropTo_mem l f pre y hy
  exact ⟨x, hx, fun k hk => by unfold ROk at *; rw [e2, e3]; exact hk⟩
end
end Go.Proofs.YtomphgpplbekiaaGreat
namespace Go.Proofs.YtomphgpplbekiaaGreat
open Go.RowKit
attribute [local go_sem ↓] Go.wp_at_zero Go.wp_at_succ

/-- A cache and the document's, alike. -/
structure Pair (w : World) (N cb rb : Nat) (R : RamAt) (M : List Int) (V : CV) (Vb : Value) (l l' : List Fb) (hi mi : Int) : Prop where
  c : IsCache w N cb R M V l hi mi
  r : IsRef w N rb Vb l' ((64 * R.n : Nat) : Int)
  e : pl l = pl l'
  s1 : ∀ x ∈ l', ∀ g, ROk x g → ¬ Wr cb R V g
  s2 : ∀ x ∈ l, ∀ g, ROk x g → ¬ RW rb Vb g
  inv : Inv R.n (pl l)
  lies : Lies R M (pl l)
  n8 : R.n ≤ 8
/-- What both write. -/
def WB (cb rb : Nat) (R : RamAt) (V : CV) (Vb : Value) (g : Nat) : Prop := Wr cb R V g ∨ RW rb Vb g
section
variable {w w' : World} {N cb rb : Nat} {R : RamAt} {M : List Int} {V : CV} {Vb : Value} {l l' : List Fb} {hi mi : Int}
theorem tg_wr (h : IsCache w N cb R M V l hi mi) (g : Nat) (hg : Wr cb R V g ∨ g = R.b ∨ g = R.S) : ∃ x, tg w g = some x ∧ x ≠ some 56 ∧ x ≠ some 62 := by
  obtain ⟨t1, t2, t3, t4, t5, t6, t7⟩ := h.c_.tA
  rcases hg with (e | e | e | e | e) | e | e
  · subst e; exact ⟨_, t1, by decide, by decide⟩
  · exact ⟨_, t6 g e, by decide, by decide⟩
  · exact ⟨_, t7 g e, by decide, by decide⟩
  · subst e; exact ⟨_, t5, by decide, by decide⟩
  · subst e; exact ⟨_, t4, by decide, by decide⟩
  · subst e; exact ⟨_, t2, by decide, by decide⟩
  · subst e; exact ⟨_, t3, by decide, by decide⟩
/-- What the program writes, and its memory's own blocks, the document does not. -/
theorem apart_wr {sz : Int} (h : IsCache w N cb R M V l hi mi) (hr : IsRef w N rb Vb l' sz) (g : Nat) (hg : Wr cb R V g ∨ g = R.b ∨ g = R.S) : ¬ RW rb Vb g := fun e => by
  obtain ⟨x, h1, h2, h3⟩ := tg_wr h g hg
  obtain ⟨t1, t2⟩ := hr.r_.tg_
  rcases e with rfl | e
  · rw [t1] at h1; exact h2 (Option.some.inj h1).symm
  · rw [t2 g e] at h1; exact h3 (Option.some.inj h1).symm
theorem cache_keeps {F : Nat → Prop} {sz : Int} (h : IsCache w N cb R M V l hi mi) (hr : IsRef w N rb Vb l' sz) (s2 : ∀ x ∈ l, ∀ g, ROk x g → ¬ RW rb Vb g) (k : Keeps F w w') (hF : ∀ g, F g → RW rb Vb g) : IsCache w' N cb R M V l hi mi :=
  h.keeps k (fun g hg e => apart_wr h hr g (.inl hg) (hF g e)) (fun e => apart_wr h hr R.b (.inr (.inl rfl)) (hF _ e)) (fun e => apart_wr h hr R.S (.inr (.inr rfl)) (hF _ e)) (fun x hx g hg e => s2 x hx g hg (hF g e))
theorem ref_keeps {F : Nat → Prop} {sz : Int} (h : IsCache w N cb R M V l hi mi) (hr : IsRef w N rb Vb l' sz) (s1 : ∀ x ∈ l', ∀ g, ROk x g → ¬ Wr cb R V g) (k : Keeps F w w') (hF : ∀ g, F g → Wr cb R V g) : IsRef w' N rb Vb l' sz :=
  hr.keeps k (fun e => apart_wr h hr rb (.inl (hF _ e)) (.inl rfl)) (fun g hg e => apart_wr h hr g (.inl (hF _ e)) (.inr hg)) (fun x hx g hg e => s1 x hx g hg (hF g e))
theorem Pair.same (h : Pair w N cb rb R M V Vb l l' hi mi) (k : Same w w') : Pair w' N cb rb R M V Vb l l' hi mi := ⟨h.c.same k, h.r.same k, h.e, h.s1, h.s2, h.inv, h.lies, h.n8⟩
theorem Pair.far (h : Pair w N cb rb R M V Vb l l' hi mi) : ∀ g, WB cb rb R V Vb g → N ≤ g := fun g hg => by
  rcases hg with hg | hg
  · exact h.c.far g hg
  · exact (h.r.r_.lt g hg).1
theorem Pair.lt (h : Pair w N cb rb R M V Vb l l' hi mi) : ∀ g, WB cb rb R V Vb g → g < w.heap.size := fun g hg => by
  rcases hg with hg | hg
  · exact h.c.lt g hg
  · exact (h.r.r_.lt g hg).2
attribute [local go_sem ↓] x_stKy x_stRw x_stLd x_stOu x_stRb x_stCd x_stBk x_stLk
attribute [local go_sem] st_Ky st_Rw st_Ld st_Ou st_Rb st_Cd st_Bk st_Lk ne_s1 en_s1 ne_s2 en_s2 ne_s3 en_s3 ne_s4 en_s4 ne_s5 en_s5 ne_s6 en_s6 ne_s7 en_s7 ne_s8 en_s8 lt_s2 lt_s3 lt_s4 lt_s5 lt_s6 lt_s7 lt_s8 rowAt_at rowAt_old rowAt_drew rowAt_drewN setRow_drew setRow_at setRow_old setRow_setRow rowAt_setRow_eq rowAt_setRow_ne cell_setRow_eq cell_setRow_ne frozen_setRow_eq frozen_setRow_ne ones_lit oc_int oc_bool oc_str oc_ptr oc_sl oc_map oc_fn oc_nf oc_ni oc_if
attribute [local go_sem ↓] x_neKy x_neRw x_neOu x_eqKy x_eqRw x_eqOu
attribute [local go_sem] ne_Ky ne_Rw ne_Ou eq_Ky eq_Rw eq_Ou
set_option maxRecDepth 100000 in
set_option maxHeartbeats 1000000 in
/-- The law's keys, of lists that are the same. -/
theorem keys_same (w : World) (B1 B2 : Nat) (v1 v2 : Value) (K : List (List Value)) (hK : ∀ c ∈ K, ∃ k1 k2, c = [.int .u32 k1, .int .u32 k2]) (h1 : RowX w B1 31 2 v1 K) (h2 : RowX w B2 31 2 v2 K) (hl : K.length ≤ 10000) :
    Calls Tryz.prog 32 #[v1, v2] w fun e w' => e = .returned (.bool true) ∧ Same w w' := by
  obtain ⟨p1, c1, rfl⟩ := h1.sl
  obtain ⟨p2, c2, rfl⟩ := h2.sl
  have H1 := hidE h1
  have H2 := hidE h2
  have q9 : (((K.length : Nat) : Int) != ((K.length : Nat) : Int)) = false := by simp
  clear h1 h2
  go_enter Tryz.func32, Tryz.ntmps32
  go_wp2_with fail
  go_loopw [5] (fun t5 wr => ∃ k : Nat, k ≤ K.length ∧ t5 = .int .i64 (k : Int) ∧ Same w wr) (fun t5 _ => (K.length - intOf t5).toNat)
  case atStart => exact ⟨0, by omega, rfl, Keeps.refl _ _⟩
  case round =>
    obtain ⟨k, hk, rfl, hs⟩ := hrel
    have HW := hidE hs
    clear hs
    by_cases hlt : k < K.length
    · have q0 : decide ((k : Int) < (K.length : Int)) = true := decide_eq_true (by omega)
      have q1 : (k : Int) < (K.length : Int) := by omega
      have q3 : (0 : Int) ≤ (k : Int) := by omega
      have e1 := wrapI ((k : Int) + 1) (by omega) (by omega)
      obtain ⟨c, hc⟩ : ∃ c, K[k]? = some c := ⟨_, List.getElem?_eq_getElem hlt⟩
      obtain ⟨k1, k2, rfl⟩ := hK c (List.mem_of_getElem? hc)
      obtain ⟨g1, cap1, ee1, -, -, -, -, hc1, -⟩ := (H1.out.keeps HW.out (fun _ _ => id)).at_ hc
      obtain ⟨g2, cap2, ee2, -, -, -, -, hc2, -⟩ := (H2.out.keeps HW.out (fun _ _ => id)).at_ hc
      cases ee1
      cases ee2
      have a0 := hc1 0 _ rfl
      have a1 := hc1 1 _ rfl
      have b0 := hc2 0 _ rfl
      have b1 := hc2 1 _ rfl
      simp only [Nat.add_zero] at a0 b0
      have A0 := hidE a0
      have A1 := hidE a1
      have B0 := hidE b0
      have B1 := hidE b1
      have s2 := same2_self k1 k2
      clear hc1 hc2 a0 a1 b0 b1 hc
      go_wp2_with fail
      refine wp_region_ra [0, 1, 2, 3, 4, 5, 6, 7, 8] [] 0 (Same _) (by kernel_rfl) (by kernel_rfl) (fun u u' h k => Keeps.trans h k) (Keeps.refl _ _).drew ?_; simp only [opsOf, List.filterMap_cons, List.filterMap_nil, List.getElem?_cons_zero, List.getElem?_cons_succ]
      repeat (first | (refine seqV_run (v := ?_) rfl (fun u hu => ?_) ?_; rotate_left; (focus (have d1 := cell_same1 hu A0.out; have d2 := cell_same1 hu A1.out; have d3 := cell_same1 hu B0.out; have d4 := cell_same1 hu B1.out; clear hu; go_simp; first | done | with_reducible rfl)); (try simp only [Act.put, List.setIfInBounds_toArray, List.set_cons_zero, List.set_cons_succ])) | (refine seqV_no rfl ?_; (try simp only [Act.put, List.setIfInBounds_toArray, List.set_cons_zero, List.set_cons_succ])))
      refine seqV_nil ?_
      refine tailR_zero fun u5 hu _ => ?_
      (try simp only [Act.put, List.setIfInBounds_toArray, List.set_cons_zero, List.set_cons_succ])
      have HK5 := hidE (HW.out.trans hu)
      clear hu
      go_wp2_with fail
      exact ⟨⟨k + 1, by omega, by simp, HK5.out⟩, by simp only [intOf]; omega⟩
    · obtain rfl : k = K.length := by omega
      have q0 : decide ((K.length : Int) < (K.length : Int)) = false := by simp
      go_wp2
      go_ret
      exact ⟨rfl, HW.out⟩
set_option maxRecDepth 100000 in
set_option maxHeartbeats 1000000 in
theorem made22 (w : World) (x : Int) (x0 : 0 ≤ x) (_x1 : x < 256) :
    Calls Tryz.prog 9 #[.int .u8 x] w fun e w' => ∃ R M cb V rb, e = .returned (.tuple #[.pointer (some ⟨cb, 0, none⟩), .pointer (some ⟨rb, 0, none⟩), .pointer (some ⟨R.b, 0, none⟩)]) ∧ Pair w' w.heap.size cb rb R M V (.slice none 0 0) [] [] 0 0 ∧ Same w w' := by
  obtain ⟨n, hn⟩ : ∃ n : Nat, x % 8 = (n : Int) := ⟨(x % 8).toNat, by omega⟩
  have hn8 : n < 8 := by omega
  have e0 : x.tmod 8 = (n : Int) := by rw [Int.tmod_eq_emod_of_nonneg x0, hn]
  have e1 := wrapI (n : Int) (by omega) (by omega)
  have e2 := wrapI (1 + (n : Int)) (by omega) (by omega)
  have e3 := wrapI (64 * (1 + (n : Int))) (by omega) (by omega)
  have e4 : IntKind.u8.wrap (n : Int) = n := by simp [IntKind.wrap, IntKind.bits, IntKind.signed]; omega
  have E5 := hidE (show (1 + (n : Int)) = ((1 + n : Nat) : Int) by omega)
  clear hn
  go_enter Tryz.func9, Tryz.ntmps9
  go_wp2_with fail
  rw [E5.out]
  refine (new_ram _ (1 + n) (by omega) (by omega)).mono ?_
  rintro _ w1 ⟨R, rfl, hRn, -, hR, hk1, -, -, hA⟩
  have HR := hidE hR
  have HK1 := hidE hk1
  have HRN := hidE hRn
  clear hR hk1 hRn
  go_wp2_with fail
  refine (cs_new _ R _ HR.out w.heap.size HK1.out.size hA).mono ?_
  rintro _ w2 ⟨cb, V, rfl, hC, hk2, -⟩
  have HC := hidE hC
  have HK2 := hidE (HK1.out.trans hk2)
  clear hC hk2 HR HK1
  go_wp2
  go_ret3
  have hz : (64 * (1 + (n : Int))) = ((64 * R.n : Nat) : Int) := by rw [HRN.out]; omega
  have k9 := (Keeps.refl (fun _ => False) w2).alloc (.cells #[.slice none 0 0, .int .i64 0, .int .i64 0, .int .i64 (64 * (1 + (n : Int)))] 56)
  have hb := block_new w2 (.cells #[.slice none 0 0, .int .i64 0, .int .i64 0, .int .i64 (64 * (1 + (n : Int)))] 56)
  refine ⟨R, _, cb, V, w2.heap.size, rfl, ⟨HC.out.same k9, ⟨?_, RowX.nil, by simp, by simp, HK2.out.size⟩, rfl, by simp, by simp, Inv.nil _, Lies.nil _ _, by rw [HRN.out]; omega⟩, HK2.out.alloc _⟩
  rw [hz] at hb ⊢
  exact hb
end
end Go.Proofs.YtomphgpplbekiaaGreat
namespace Go.Proofs.YtomphgpplbekiaaGreat
open Go.RowKit
section
variable {w0 w w' : World} {cb rb : Nat} {R : RamAt} {M : List Int} {V : CV} {Vb : Value} {l l' : List Fb} {hi mi : Int}
/-- What is left behind a call on both. -/
def FrB (B : Nat) (L : List Fp) : Prop := ∀ f ∈ L, f.frs.length ≤ B
def PairQ (w0 w : World) (cb rb : Nat) (R : RamAt) (V : CV) (Vb : Value) (l : List Fb) (hi mi : Int) (nx : Nat) (w2 : World) : Prop :=
  ∃ M' V' Vb' m m', Pair w2 w0.heap.size cb rb R M' V' Vb' m m' hi mi ∧ m.length ≤ l.length + 1 ∧ Keeps (WB cb rb R V Vb) w w2 ∧ ∀ B, nx ≤ B → FrB B (pl l) → FrB B (pl m)
theorem wr_same (P : Pair w w0.heap.size cb rb R M V Vb l l' hi mi) (h0 : Same w0 w) {F : Nat → Prop} {w1 : World} (k : Keeps F w w1) (hF : ∀ g, F g → WB cb rb R V Vb g) : Same w0 w1 := same_then h0 k fun g hg => P.far g (hF g hg)
theorem pair_put (P : Pair w w0.heap.size cb rb R M V Vb l l' hi mi) (h0 : Same w0 w) (b : Bk) (hb : b.Ok w0) (xs : List Int) (hfr : IntSl w0 b.fr xs) (hlx : xs.length * 8 ≤ 140737488355328) (hll : l.length ≤ 1000) (k1 k2 : Int) :
    ∃ a ec, Calls Tryz.prog 38 #[.pointer (some ⟨cb, 0, none⟩), .agg #[.int .u32 k1, .int .u32 k2], .agg (bkA b)] w (fun e w1 => e = .returned (.tuple #[.int .i64 a, .int .i64 ec]) ∧ Keeps (fun g => Wr cb R V g) w w1 ∧
      ∀ u, Same w1 u → Calls Tryz.prog 40 #[.pointer (some ⟨rb, 0, none⟩), .agg #[.int .u32 k1, .int .u32 k2], .agg (bkA b)] u (fun e w2 => e = .returned (.tuple #[.int .i64 a, .int .i64 ec]) ∧ PairQ w0 w cb rb R V Vb l hi mi xs.length w2)) := by
  have hll' : l'.length ≤ 1000 := by rw [← len_pl P.e]; exact hll
  have hol := P.inv.own_len
  rw [pl_len] at hol
  have hus := P.inv.us
  have hn8 := P.n8
  by_cases hno : (idxL (pl l) (k1, k2)).isSome = true ∨ mayBlk b = false
  · refine ⟨0, 2, (cs_put_no P.c b (hb.keeps h0) xs k1 k2 hno).mono fun e w1 hp => ?_⟩
    unfold PutP at hp
    rw [if_pos hno] at hp
    obtain ⟨rfl, h1, h2⟩ := hp
    refine ⟨rfl, h2.mono fun _ _ h => h.elim, fun u hu => ?_⟩
    have hno' := hno
    rw [P.e] at hno'
    refine (rf_put_no ((P.r.same h2).same hu) (by omega) b (hb.keeps ((h0.trans h2).trans hu)) xs k1 k2 hno').mono fun e w2 hp => ?_
    unfold RPutP at hp
    rw [if_pos hno'] at hp
    obtain ⟨rfl, -, h4⟩ := hp
    have hs := (h2.trans hu).trans h4
    exact ⟨rfl, M, V, Vb, l, l', P.same hs, by omega, hs.mono fun _ _ h => h.elim, fun _ _ h => h⟩
  · have hi0 : idxL (pl l) (k1, k2) = none := by
      cases hq : idxL (pl l) (k1, k2) with
      | none => rfl
      | some j => rw [hq] at hno; exact absurd (.inl rfl) hno
    have hm : mayBlk b = true := by
      cases hq : mayBlk b with
      | true => rfl
      | false => rw [hq] at hno; exact absurd (.inr rfl) hno
    have hno' := hno
    rw [P.e] at hno'
    have hi0' := hi0
    rw [P.e] at hi0'
    have hfN : xs ≠ [] → ∀ g, some g = b.fr.ownBlock → g < w0.heap.size := fun hx g hg => hfr.lt hx g hg
    have hC := cs_put_yes P.c h0.size b (hb.keeps h0) xs (hfr.keeps2 h0 fun _ _ _ => id) hfN hlx (by omega) (by omega) hus k1 k2 hi0 hm
    by_cases hfit : usedL (pl l) + (trC b ((ownL (pl l)).length : Nat)).1.length ≤ 64 * R.n
    · refine ⟨((usedL (pl l) : Nat) : Int), 0, hC.mono fun e w1 hp => ?_⟩
      unfold PutP at hp
      rw [if_neg hno, if_pos hfit] at hp
      obtain ⟨V', x, hx, rfl, hI, hk, hV, hX⟩ := hp
      refine ⟨rfl, hk, fun u hu => ?_⟩
      have hs1 : Same w0 u := (wr_same P h0 hk fun g hg => .inl hg).trans hu
      have hru := (ref_keeps P.c P.r P.s1 hk fun g hg => hg).same hu
      have hfit' : ((usedL (pl l') + (trC b ((ownL (pl l')).length : Nat)).1.length : Nat) : Int) ≤ ((64 * R.n : Nat) : Int) := by rw [← P.e]; omega
      refine (rf_put_yes hru hs1.size (by omega) b (hb.keeps hs1) xs (hfr.keeps2 hs1 fun _ _ _ => id) hfN (by rw [← P.e]; omega) (by rw [← P.e]; omega) ⟨by omega, by omega⟩ k1 k2 hi0' hm).mono fun e w2 hp => ?_
      unfold RPutP at hp
      rw [if_neg hno', if_pos hfit'] at hp
      obtain ⟨Vb', v, rfl, hR, hk2, hV2, hX2⟩ := hp
      have hfl := P.lt
      have hz1 := hk.size
      have hz2 := hu.size
      have hIu := hI.same hu
      have s2' : ∀ y ∈ l ++ [x], ∀ g, ROk y g → ¬ RW rb Vb g := fun y hy g hg e => by
        rcases List.mem_append.1 hy with hy | hy
        · exact P.s2 y hy g hg e
        · simp at hy; subst hy
          have h1 := hX g hg
          have h2 := hfl g (.inr e)
          omega
      refine ⟨by rw [P.e], R.put M (usedL (pl l)) (trC b ((ownL (pl l)).length : Nat)).1, V', Vb', l ++ [x], l' ++ [(fpOf (pl l') (k1, k2) b xs, v)], ⟨cache_keeps hIu hru s2' hk2 fun g hg => hg, hR, ?_, ?_, ?_, ?_, ?_, hn8⟩, by simp, ?_, fun B hB hF f hf => ?_⟩
      · have := P.e
        simp only [pl, List.map_append, List.map_cons, List.map_nil] at this ⊢
        rw [hx, this]
        simp only [pl, this]
      · intro y hy g hg e
        rcases List.mem_append.1 hy with hy | hy
        · have h1 := (P.r.fb y hy).lt g hg
          rcases hV g e with h2 | h2
          · exact P.s1 y hy g hg h2
          · omega
        · simp at hy; subst hy
          rcases hX2 g hg with h1 | ⟨h1, h2⟩
          · have := hIu.c_.lt g e
            omega
          · have h3 := hfN h1 g h2
            have h4 := hI.far g e
            omega
      · intro y hy g hg e
        rcases List.mem_append.1 hy with hy' | hy'
        · have h1 := (P.c.fb y hy').lt g hg
          rcases hV2 g e with h2 | h2
          · exact P.s2 y hy' g hg h2
          · omega
        · rcases hV2 g e with h2 | h2
          · exact s2' y hy g hg h2
          · have := (hI.fb y hy).lt g hg
            omega
      · have hp1 : pl (l ++ [x]) = pl l ++ [fpOf (pl l) (k1, k2) b xs] := by simp [pl, hx]
        rw [hp1]
        exact P.inv.push (code_put hb hm (pl l) (k1, k2) xs (by omega)) rfl hi0 hfit rfl
      · have hp1 : pl (l ++ [x]) = pl l ++ [fpOf (pl l) (k1, k2) b xs] := by simp [pl, hx]
        rw [hp1]
        exact Lies.put (f := fpOf (pl l) (k1, k2) b xs) P.c.ram P.inv P.lies rfl hfit
      · exact ((hk.mono fun _ _ h => .inl h).trans (hu.mono fun _ _ h => h.elim)).trans (hk2.mono fun _ _ h => .inr h)
      · have hp1 : pl (l ++ [x]) = pl l ++ [fpOf (pl l) (k1, k2) b xs] := by simp [pl, hx]
        rw [hp1] at hf
        rcases List.mem_append.1 hf with hf | hf
        · exact hF f hf
        · simp at hf
          subst hf
          exact hB
    · refine ⟨0, 5, hC.mono fun e w1 hp => ?_⟩
      unfold PutP at hp
      rw [if_neg hno, if_neg hfit] at hp
      obtain ⟨rfl, h1, h2⟩ := hp
      refine ⟨rfl, h2.mono fun _ _ h => h.elim, fun u hu => ?_⟩
      have hs1 : Same w0 u := (h0.trans h2).trans hu
      have hfit' : ¬ ((usedL (pl l') + (trC b ((ownL (pl l')).length : Nat)).1.length : Nat) : Int) ≤ ((64 * R.n : Nat) : Int) := by rw [← P.e]; omega
      refine (rf_put_yes ((P.r.same h2).same hu) hs1.size (by omega) b (hb.keeps hs1) xs (hfr.keeps2 hs1 fun _ _ _ => id) hfN (by rw [← P.e]; omega) (by rw [← P.e]; omega) ⟨by omega, by omega⟩ k1 k2 hi0' hm).mono fun e w2 hp => ?_
      unfold RPutP at hp
      rw [if_neg hno', if_neg hfit'] at hp
      obtain ⟨rfl, -, h4⟩ := hp
      have hs := (h2.trans hu).trans h4
      exact ⟨rfl, M, V, Vb, l, l', P.same hs, by omega, hs.mono fun _ _ h => h.elim, fun _ _ h => h⟩
theorem pair_flush (P : Pair w w0.heap.size cb rb R M V Vb l l' hi mi) (h0 : Same w0 w) :
    Calls Tryz.prog 37 #[.pointer (some ⟨cb, 0, none⟩)] w (fun e w1 => e = .returned (.tuple #[]) ∧ Keeps (fun g => Wr cb R V g) w w1 ∧
      ∀ u, Same w1 u → Calls Tryz.prog 42 #[.pointer (some ⟨rb, 0, none⟩)] u (fun e w2 => e = .returned (.tuple #[]) ∧ PairQ w0 w cb rb R V Vb l hi mi 0 w2)) := by
  refine (cs_flush P.c h0.size).mono ?_
  rintro e w1 ⟨rfl, hI, hk⟩
  refine ⟨rfl, hk.mono fun g _ hg => .inl hg, fun u hu => ?_⟩
  have hru := (ref_keeps P.c P.r P.s1 (hk.mono (G := fun g => Wr cb R V g) fun g _ hg => .inl hg) fun g hg => hg).same hu
  refine (rf_flush hru).mono ?_
  rintro e w2 ⟨rfl, hR, hk2⟩
  refine ⟨rfl, M, ⟨.slice none 0 0, .slice none 0 0, w.heap.size⟩, .slice none 0 0, [], [], ⟨cache_keeps (hI.same hu) hru (by simp) hk2 fun g hg => .inl hg, hR, rfl, by simp, by simp, Inv.nil _, Lies.nil _ _, P.n8⟩, by simp, ?_, fun _ _ _ f hf => by cases hf⟩
  exact ((hk.mono fun _ _ h => .inl (.inl h)).trans (hu.mono fun _ _ h => h.elim)).trans (hk2.mono fun _ _ h => .inr (.inl h))
theorem keysForm (l : List Fb) (f : Int) (pre : List Nat) (hp : ∀ j ∈ pre, j < l.length) : ∀ c ∈ dropK l f pre, ∃ k1 k2, c = [.int .u32 k1, .int .u32 k2] := fun c hc => by
  obtain ⟨j, hj, rfl⟩ := List.mem_map.1 hc
  obtain ⟨x, hx⟩ : ∃ x, l[j]? = some x := ⟨_, List.getElem?_eq_getElem (hp j (List.mem_filter.1 hj).1)⟩
  exact ⟨x.1.k1, x.1.k2, by unfold keyAt; rw [hx]; rfl⟩
theorem keysForm2 (l : List Fb) : ∀ c ∈ keysL l, ∃ k1 k2, c = [.int .u32 k1, .int .u32 k2] := fun c hc => by
  obtain ⟨j, hj, rfl⟩ := List.mem_map.1 hc
  obtain ⟨x, hx⟩ : ∃ x, l[j]? = some x := ⟨_, List.getElem?_eq_getElem (liveIdx_lt hj)⟩
  exact ⟨x.1.k1, x.1.k2, by unfold keyAt; rw [hx]; rfl⟩
theorem dropK_len (l : List Fb) (f : Int) : (dropK l f (liveIdx l l.length)).length ≤ l.length := by
  have h1 := liveIdx_le l l.length
  have h2 : (dropK l f (liveIdx l l.length)).length ≤ (liveIdx l l.length).length := by simpa [dropK] using List.length_filter_le _ _
  omega
def DropQ (w0 w : World) (cb rb : Nat) (R : RamAt) (V : CV) (Vb : Value) (l l' : List Fb) (hi mi : Int) (f : Int) (w2 : World) : Prop :=
  ∃ M', Pair w2 w0.heap.size cb rb R M' V Vb (dropTo l f (liveIdx l l.length)) (dropTo l' f (liveIdx l' l'.length)) hi mi ∧ Keeps (WB cb rb R V Vb) w w2
theorem pair_drop (P : Pair w w0.heap.size cb rb R M V Vb l l' hi mi) (f : Int) (hll : l.length ≤ 1000) :
    Calls Tryz.prog 36 #[.pointer (some ⟨cb, 0, none⟩), .int .i64 f] w (fun e w1 => ∃ v, e = .returned v ∧ RowX w1 w.heap.size 31 2 v (dropK l f (liveIdx l l.length)) ∧ Keeps (fun g => Wr cb R V g) w w1 ∧ IsCache w1 w0.heap.size cb R M V (dropTo l f (liveIdx l l.length)) hi mi ∧
      ∀ u, Same w1 u → Calls Tryz.prog 41 #[.pointer (some ⟨rb, 0, none⟩), .int .i64 f] u (fun e w2 => ∃ v2, e = .returned v2 ∧ RowX w2 u.heap.size 31 2 v2 (dropK l f (liveIdx l l.length)) ∧ Keeps (fun g => RW rb Vb g) u w2 ∧ DropQ w0 w cb rb R V Vb l l' hi mi f w2)) := by
  have hll' : l'.length ≤ 1000 := by rw [← len_pl P.e]; exact hll
  refine (cs_drop P.c (by omega) f P.inv.nd).mono ?_
  rintro e w1 ⟨v, rfl, hv, hI, hk⟩
  have hkw : Keeps (fun g => Wr cb R V g) w w1 := hk.mono fun g _ hg => by
    rcases hg with hg | hg
    · exact .inr (.inl hg)
    · exact .inr (.inr (.inr (.inl hg)))
  refine ⟨v, rfl, hv, hkw, hI, fun u hu => ?_⟩
  have hru := (ref_keeps P.c P.r P.s1 hkw fun g hg => hg).same hu
  refine (rf_drop hru (by omega) f).mono ?_
  rintro e w2 ⟨v2, rfl, hv2, hR, hk2⟩
  have hkr : Keeps (fun g => RW rb Vb g) u w2 := hk2.mono fun g _ hg => .inr hg
  have hi' : liveIdx l' l'.length = liveIdx l l.length := by rw [← len_pl P.e]; exact (liveIdx_pl P.e _).symm
  refine ⟨v2, rfl, by rw [hi', ← dropK_pl P.e] at hv2; exact hv2, hkr, M, ⟨?_, hR, ?_, ?_, ?_, ?_, ?_, P.n8⟩, ?_⟩
  · refine cache_keeps (hI.same hu) hru (fun y hy g hg => ?_) hkr fun g hg => hg
    obtain ⟨x, hx, h⟩ := dropTo_ro hy
    exact P.s2 x hx g (h g hg)
  · rw [hi']; exact dropTo_pl P.e _
  · intro y hy g hg
    obtain ⟨x, hx, h⟩ := dropTo_ro hy
    exact P.s1 x hx g (h g hg)
  · intro y hy g hg
    obtain ⟨x, hx, h⟩ := dropTo_ro hy
    exact P.s2 x hx g (h g hg)
  · exact dropTo_keeps (P := Inv R.n) (fun L k g hg h => h.dead hg) P.inv _
  · exact dropTo_keeps (P := Lies R M) (fun L k g hg h => h.dead hg) P.lies _
  · exact ((hkw.mono fun _ _ h => .inl h).trans (hu.mono fun _ _ h => h.elim)).trans (hkr.mono fun _ _ h => .inr h)
/-- What both find. -/
theorem find_alike (he : pl l = pl l') (k1 k2 : Int) : (∃ a bv rv fv a1 a2 fin lv, (∀ (w : World) (N : Nat) (e : Ending) (w1 : World), FindPost w N cb R M V l hi mi (k1, k2) e w1 → e = .returned (.tuple #[.int .i64 a, .bool true]) ∧ IsCache w1 N cb R M V l (hi + 1) mi ∧ Keeps (fun k => k = cb) w w1) ∧ refFindV l' (k1, k2) = .tuple #[.agg #[.int .u32 a1, .int .u32 a2, .int .i64 a, bv, rv, fv, .int .i64 fin, .bool lv], .bool true] ∧ (idxL (pl l) (k1, k2)).isSome = true ∧ ∃ x ∈ l', bv = x.2.bv ∧ rv = x.2.rv ∧ fv = x.2.fv) ∨
    ((∀ (w : World) (N : Nat) (e : Ending) (w1 : World), FindPost w N cb R M V l hi mi (k1, k2) e w1 → e = .returned (.tuple #[.int .i64 0, .bool false]) ∧ IsCache w1 N cb R M V l hi (mi + 1) ∧ Keeps (fun k => k = cb) w w1) ∧ refFindV l' (k1, k2) = .tuple #[.agg blockZ, .bool false] ∧ (idxL (pl l) (k1, k2)).isSome = false) := by
  cases hq : idxL (pl l) (k1, k2) with
  | none =>
    refine .inr ⟨fun w N e w1 h => ?_, refFind_no (by rw [← he]; exact hq), rfl⟩
    unfold FindPost at h
    rw [hq] at h
    exact h
  | some j =>
    obtain ⟨f, hf, -⟩ := idxL_some hq
    obtain ⟨x, hx, rfl⟩ := pl_at hf
    have hf' := hf
    rw [he] at hf'
    obtain ⟨y, hy, hyx⟩ := pl_at hf'
    refine .inl ⟨x.1.pos, y.2.bv, y.2.rv, y.2.fv, y.1.k1, y.1.k2, y.1.fin, y.1.live, fun w N e w1 h => ?_, ?_, rfl, y, List.mem_of_getElem? hy, rfl, rfl, rfl⟩
    · unfold FindPost at h
      rw [hq] at h
      obtain ⟨z, hz, h1, h2, h3⟩ := h
      rw [hx] at hz
      cases hz
      exact ⟨h1, h2, h3⟩
    · unfold refFindV
      rw [← he, hq]
      simp only [hy, blockV, hyx]
end
end Go.Proofs.YtomphgpplbekiaaGreat
namespace Go.Proofs.YtomphgpplbekiaaGreat
open Go.RowKit
attribute [local go_sem ↓] Go.wp_at_zero Go.wp_at_succ
section
variable {w0 w w' : World} {cb rb : Nat} {R : RamAt} {M : List Int} {V : CV} {Vb : Value} {l l' : List Fb} {hi mi : Int}
def tally (L : List Fp) (kd : Int) (k : Int × Int) (hi mi : Int) : Int × Int := if kd = 3 then (if (idxL L k).isSome then (hi + 1, mi) else (hi, mi + 1)) else (hi, mi)
def StepQ (w0 w : World) (cb rb : Nat) (R : RamAt) (V : CV) (Vb : Value) (l : List Fb) (hi mi : Int) (kd : Int) (k : Int × Int) (nx : Nat) (w2 : World) : Prop :=
  ∃ M' V' Vb' m m', Pair w2 w0.heap.size cb rb R M' V' Vb' m m' (tally (pl l) kd k hi mi).1 (tally (pl l) kd k hi mi).2 ∧ m.length ≤ l.length + 1 ∧ Keeps (WB cb rb R V Vb) w w2 ∧ ∀ B, nx ≤ B → FrB B (pl l) → FrB B (pl m)
theorem PairQ.step {W w2 : World} {kd : Int} {k : Int × Int} {nx : Nat} (h : PairQ w0 W cb rb R V Vb l hi mi nx w2) (hs : Same w W) (hk : kd ≠ 3) : StepQ w0 w cb rb R V Vb l hi mi kd k nx w2 := by
  obtain ⟨M', V', Vb', m, m', h1, h2, h3, h4⟩ := h
  refine ⟨M', V', Vb', m, m', ?_, h2, (hs.mono fun _ _ h => h.elim).trans h3, h4⟩
  unfold tally
  rw [if_neg hk]
  exact h1
theorem StepQ.same {w2 w3 : World} {kd : Int} {k : Int × Int} {nx : Nat} (h : StepQ w0 w cb rb R V Vb l hi mi kd k nx w2) (hs : Same w2 w3) : StepQ w0 w cb rb R V Vb l hi mi kd k nx w3 := by
  obtain ⟨M', V', Vb', m, m', h1, h2, h3, h4⟩ := h
  exact ⟨M', V', Vb', m, m', h1.same hs, h2, h3.trans (hs.mono fun _ _ h => h.elim), h4⟩
theorem StepQ.more {w2 : World} {kd : Int} {k : Int × Int} (n : Nat) (h : StepQ w0 w cb rb R V Vb l hi mi kd k 0 w2) : StepQ w0 w cb rb R V Vb l hi mi kd k n w2 := by
  obtain ⟨M', V', Vb', m, m', h1, h2, h3, h4⟩ := h
  exact ⟨M', V', Vb', m, m', h1, h2, h3, fun B _ => h4 B (Nat.zero_le _)⟩
attribute [local go_sem ↓] x_stKy x_stRw x_stLd x_stOu x_stRb x_stCd x_stBk x_stLk
attribute [local go_sem] st_Ky st_Rw st_Ld st_Ou st_Rb st_Cd st_Bk st_Lk ne_s1 en_s1 ne_s2 en_s2 ne_s3 en_s3 ne_s4 en_s4 ne_s5 en_s5 ne_s6 en_s6 ne_s7 en_s7 ne_s8 en_s8 lt_s2 lt_s3 lt_s4 lt_s5 lt_s6 lt_s7 lt_s8 rowAt_at rowAt_old rowAt_drew rowAt_drewN setRow_drew setRow_at setRow_old setRow_setRow rowAt_setRow_eq rowAt_setRow_ne cell_setRow_eq cell_setRow_ne frozen_setRow_eq frozen_setRow_ne ones_lit oc_int oc_bool oc_str oc_ptr oc_sl oc_map oc_fn oc_nf oc_ni oc_if
attribute [local go_sem ↓] x_neKy x_neRw x_neOu x_eqKy x_eqRw x_eqOu
attribute [local go_sem] ne_Ky ne_Rw ne_Ou eq_Ky eq_Rw eq_Ou
set_option maxRecDepth 100000 in
set_option maxHeartbeats 4000000 in
theorem step_put (P : Pair w w0.heap.size cb rb R M V Vb l l' hi mi) (h0 : Same w0 w) (n k1 k2 : Int) (b : Bk) (hb : b.Ok w0) (xs : List Int) (hfr : IntSl w0 b.fr xs) (hlx : xs.length * 8 ≤ 140737488355328) (hll : l.length ≤ 1000) :
    Calls Tryz.prog 10 #[.pointer (some ⟨cb, 0, none⟩), .pointer (some ⟨rb, 0, none⟩), .agg (stepA 0 n k1 k2 b)] w fun e w' => e = .returned (.bool true) ∧ StepQ w0 w cb rb R V Vb l hi mi 0 (k1, k2) xs.length w' := by
  have k0 := (Keeps.refl (fun _ => False) w).alloc (.cells (stepA 0 n k1 k2 b) 38)
  obtain ⟨a, ec, hP⟩ := pair_put (P.same k0) (h0.trans k0) b hb xs hfr hlx hll k1 k2
  have HP := hidE hP
  have B0 := hidE (block_new w (.cells (stepA 0 n k1 k2 b) 38))
  have LT := hidE P.lt
  have HK0 := hidE k0
  have s1 : (a == a) = true := by simp
  have s2 : (ec == ec) = true := by simp
  simp only [stepA, bkA] at *
  clear P hP k0 hb hfr
  go_enter Tryz.func10, Tryz.ntmps10
  go_wp2_with fail
  refine HP.out.mono ?_
  rintro _ w1 ⟨rfl, hk, hr⟩
  have HR := hidE (hr w1 (Keeps.refl _ _))
  have c1 := cell_of (hk.get B0.out fun e => by have := LT.out _ (.inl e); omega)
  clear hk hr
  go_wp2_with fail
  refine HR.out.mono ?_
  rintro _ w2 ⟨rfl, hq⟩
  have HQ := hidE hq
  clear hq c1 HR HP
  go_wp2
  go_ret
  exact ⟨rfl, HQ.out.step HK0.out (by decide)⟩
set_option maxRecDepth 100000 in
set_option maxHeartbeats 4000000 in
theorem step_flush (P : Pair w w0.heap.size cb rb R M V Vb l l' hi mi) (h0 : Same w0 w) (n k1 k2 : Int) (b : Bk) :
    Calls Tryz.prog 10 #[.pointer (some ⟨cb, 0, none⟩), .pointer (some ⟨rb, 0, none⟩), .agg (stepA 2 n k1 k2 b)] w fun e w' => e = .returned (.bool true) ∧ StepQ w0 w cb rb R V Vb l hi mi 2 (k1, k2) 0 w' := by
  have k0 := (Keeps.refl (fun _ => False) w).alloc (.cells (stepA 2 n k1 k2 b) 38)
  have HP := hidE (pair_flush (P.same k0) (h0.trans k0))
  have HK0 := hidE k0
  simp only [stepA] at *
  clear P k0
  go_enter Tryz.func10, Tryz.ntmps10
  go_wp2_with fail
  refine HP.out.mono ?_
  rintro _ w1 ⟨rfl, hk, hr⟩
  have HR := hidE (hr w1 (Keeps.refl _ _))
  clear hk hr
  go_wp2_with fail
  refine HR.out.mono ?_
  rintro _ w2 ⟨rfl, hq⟩
  have HQ := hidE hq
  clear hq HR HP
  go_wp2
  go_ret
  exact ⟨rfl, HQ.out.step HK0.out (by decide)⟩
set_option maxRecDepth 100000 in
set_option maxHeartbeats 4000000 in
theorem step_none (P : Pair w w0.heap.size cb rb R M V Vb l l' hi mi) (kd n k1 k2 : Int) (b : Bk) (hkd : kd ≠ 0 ∧ kd ≠ 1 ∧ kd ≠ 2 ∧ kd ≠ 3 ∧ kd ≠ 4 ∧ kd ≠ 5) :
    Calls Tryz.prog 10 #[.pointer (some ⟨cb, 0, none⟩), .pointer (some ⟨rb, 0, none⟩), .agg (stepA kd n k1 k2 b)] w fun e w' => e = .returned (.bool true) ∧ StepQ w0 w cb rb R V Vb l hi mi kd (k1, k2) 0 w' := by
  have k0 := (Keeps.refl (fun _ => False) w).alloc (.cells (stepA kd n k1 k2 b) 38)
  have HQ : Hid (PairQ w0 w cb rb R V Vb l hi mi 0 (w.alloc (.cells (stepA kd n k1 k2 b) 38))) := hidE ⟨M, V, Vb, l, l', P.same k0, by omega, k0.mono fun _ _ h => h.elim, fun _ _ h => h⟩
  have q0 : (kd == 0) = false := beq_eq_false_iff_ne.2 hkd.1
  have q1 : (kd == 1) = false := beq_eq_false_iff_ne.2 hkd.2.1
  have q2 : (kd == 2) = false := beq_eq_false_iff_ne.2 hkd.2.2.1
  have q3 : (kd == 3) = false := beq_eq_false_iff_ne.2 hkd.2.2.2.1
  have q4 : (kd == 4) = false := beq_eq_false_iff_ne.2 hkd.2.2.2.2.1
  have q5 : (kd == 5) = false := beq_eq_false_iff_ne.2 hkd.2.2.2.2.2
  have hk3 := hkd.2.2.2.1
  have HK3 := hidE hk3
  simp only [stepA] at *
  clear P k0 hkd hk3
  go_enter Tryz.func10, Tryz.ntmps10
  go_wp2
  go_ret
  exact ⟨rfl, HQ.out.step (Keeps.refl _ _) HK3.out⟩
set_option maxRecDepth 100000 in
set_option maxHeartbeats 4000000 in
theorem step_find (P : Pair w w0.heap.size cb rb R M V Vb l l' hi mi) (_h0 : Same w0 w) (n k1 k2 : Int) (b : Bk) (hh : 0 ≤ hi ∧ hi < 1000) (hm : 0 ≤ mi ∧ mi < 1000) (hll : l.length ≤ 1000) :
    Calls Tryz.prog 10 #[.pointer (some ⟨cb, 0, none⟩), .pointer (some ⟨rb, 0, none⟩), .agg (stepA 3 n k1 k2 b)] w fun e w' => e = .returned (.bool true) ∧ StepQ w0 w cb rb R V Vb l hi mi 3 (k1, k2) 0 w' := by
  have k0 := (Keeps.refl (fun _ => False) w).alloc (.cells (stepA 3 n k1 k2 b) 38)
  have HF := hidE (cs_find (P.same k0).c ⟨by omega, by omega⟩ ⟨by omega, by omega⟩ (by omega) k1 k2)
  have HPP := hidE (P.same k0)
  have B0 := hidE (block_new w (.cells (stepA 3 n k1 k2 b) 38))
  have HK0 := hidE k0
  have hll' : l'.length ≤ 1000 := by rw [← len_pl P.e]; exact hll
  have hncb : w.heap.size ≠ cb := fun e => by have := P.lt cb (.inl (.inl rfl)); omega
  simp only [stepA] at *
  rcases find_alike (cb := cb) (R := R) (M := M) (V := V) (hi := hi) (mi := mi) P.e k1 k2 with ⟨a, bv, rv, fv, a1, a2, fin, lv, h1, h2, h3, x, hx, rfl, rfl, rfl⟩ | ⟨h1, h2, h3⟩
  · have s1 : (a == a) = true := by simp
    have H1 := hidE h1
    have H2 := hidE h2
    have H3 := hidE h3
    obtain ⟨o1, o2, o3⟩ := (P.r.fb x hx).ones
    clear P k0 h1 h2 h3
    go_enter Tryz.func10, Tryz.ntmps10
    go_wp2_with fail
    refine HF.out.mono fun e w1 hp => ?_
    obtain ⟨rfl, hI, hk⟩ := H1.out _ _ _ _ hp
    have hru := ref_keeps HPP.out.c HPP.out.r HPP.out.s1 (hk.mono (G := fun g => Wr cb R V g) fun g _ hg => .inl hg) fun g hg => hg
    have HP1 : Hid (Pair w1 w0.heap.size cb rb R M V Vb l l' (hi + 1) mi) := hidE ⟨hI, hru, HPP.out.e, HPP.out.s1, HPP.out.s2, HPP.out.inv, HPP.out.lies, HPP.out.n8⟩
    have HK1 := hidE ((HK0.out.mono (G := WB cb rb R V Vb) fun _ _ h => h.elim).trans (hk.mono (G := WB cb rb R V Vb) fun g _ hg => .inl (.inl hg)))
    have c1 := cell_of (hk.get B0.out hncb)
    clear hp hI hk hru HF
    go_wp2_with fail
    refine (rf_find HP1.out.r (by omega) k1 k2).mono ?_
    rintro _ w2 ⟨rfl, hk2⟩
    rw [H2.out]
    have HP2 := hidE (HP1.out.same hk2)
    have HK2 := hidE (HK1.out.trans (hk2.mono fun _ _ h => h.elim))
    clear hk2 c1
    go_wp2
    go_ret
    refine ⟨rfl, StepQ.same (w2 := w2) ⟨M, V, Vb, l, l', ?_, by omega, HK2.out, fun _ _ h => h⟩ ((Keeps.refl _ _).alloc _)⟩
    have ht : tally (pl l) 3 (k1, k2) hi mi = (hi + 1, mi) := by unfold tally; rw [if_pos rfl, if_pos H3.out]
    rw [ht]
    exact HP2.out
  · have H1 := hidE h1
    simp only [blockZ] at h2
    have H2 := hidE h2
    have H3 := hidE h3
    clear P k0 h1 h2 h3
    go_enter Tryz.func10, Tryz.ntmps10
    go_wp2_with fail
    refine HF.out.mono fun e w1 hp => ?_
    obtain ⟨rfl, hI, hk⟩ := H1.out _ _ _ _ hp
    have hru := ref_keeps HPP.out.c HPP.out.r HPP.out.s1 (hk.mono (G := fun g => Wr cb R V g) fun g _ hg => .inl hg) fun g hg => hg
    have HP1 : Hid (Pair w1 w0.heap.size cb rb R M V Vb l l' hi (mi + 1)) := hidE ⟨hI, hru, HPP.out.e, HPP.out.s1, HPP.out.s2, HPP.out.inv, HPP.out.lies, HPP.out.n8⟩
    have HK1 := hidE ((HK0.out.mono (G := WB cb rb R V Vb) fun _ _ h => h.elim).trans (hk.mono (G := WB cb rb R V Vb) fun g _ hg => .inl (.inl hg)))
    have c1 := cell_of (hk.get B0.out hncb)
    clear hp hI hk hru HF
    go_wp2_with fail
    refine (rf_find HP1.out.r (by omega) k1 k2).mono ?_
    rintro _ w2 ⟨rfl, hk2⟩
    rw [H2.out]
    have HP2 := hidE (HP1.out.same hk2)
    have HK2 := hidE (HK1.out.trans (hk2.mono fun _ _ h => h.elim))
    clear hk2 c1
    go_wp2
    go_ret
    refine ⟨rfl, StepQ.same (w2 := w2) ⟨M, V, Vb, l, l', ?_, by omega, HK2.out, fun _ _ h => h⟩ ((Keeps.refl _ _).alloc _)⟩
    have ht : tally (pl l) 3 (k1, k2) hi mi = (hi, mi + 1) := by unfold tally; rw [if_pos rfl, if_neg (by rw [H3.out]; simp)]
    rw [ht]
    exact HP2.out
end
end Go.Proofs.YtomphgpplbekiaaGreat
namespace Go.Proofs.YtomphgpplbekiaaGreat
open Go.RowKit
attribute [local go_sem ↓] Go.wp_at_zero Go.wp_at_succ
theorem refAtV_form (l : List Fb) (off : Int) : ∃ q1 q2 a b c d bb, refAtV l off = .tuple #[.agg #[.int .u32 q1, .int .u32 q2], .agg #[.int .i64 a, .int .u32 b, .int .i64 c, .int .i64 d], .bool bb] := by
  unfold refAtV
  cases refAt l off with
  | none => exact ⟨_, _, _, _, _, _, _, rfl⟩
  | some p => exact ⟨_, _, _, _, _, _, _, rfl⟩
section
variable {w0 w w' : World} {cb rb : Nat} {R : RamAt} {M : List Int} {V : CV} {Vb : Value} {l l' : List Fb} {hi mi : Int}
theorem Pair.len' (P : Pair w w0.heap.size cb rb R M V Vb l l' hi mi) (hll : l.length ≤ 1000) : l'.length ≤ 1000 := by rw [← len_pl P.e]; exact hll
theorem Pair.asked' (P : Pair w w0.heap.size cb rb R M V Vb l l' hi mi) : ∀ x ∈ l', 0 ≤ x.1.pos ∧ x.1.pos ≤ 1000000 ∧ x.1.bs.length ≤ 5000 ∧ x.1.rs.length ≤ 5000 ∧ RiseR x.1.rs ∧ ∀ r ∈ x.1.rs, 0 ≤ r.off ∧ r.off ≤ 1000000 := by
  have h := P.inv
  rw [P.e] at h
  exact h.asked (by have := P.n8; omega)
theorem Pair.asked (P : Pair w w0.heap.size cb rb R M V Vb l l' hi mi) : ∀ x ∈ l, 0 ≤ x.1.pos ∧ x.1.pos ≤ 1000000 ∧ x.1.bs.length ≤ 5000 ∧ x.1.rs.length ≤ 5000 ∧ RiseR x.1.rs ∧ ∀ r ∈ x.1.rs, 0 ≤ r.off ∧ r.off ≤ 1000000 := P.inv.asked (by have := P.n8; omega)
theorem Pair.own_ (P : Pair w w0.heap.size cb rb R M V Vb l l' hi mi) (hll : l.length ≤ 1000) : (ownL (pl l)).length ≤ 60000 := by
  have h := P.inv.own_len
  rw [pl_len] at h
  omega
/-- At, of both. -/
theorem pair_at (P : Pair w w0.heap.size cb rb R M V Vb l l' hi mi) (off : Int) (f0 : -9223372036854775808 ≤ off) (f1 : off ≤ 9223372036854775807) (hll : l.length ≤ 1000) :
    Calls Tryz.prog 15 #[.pointer (some ⟨cb, 0, none⟩), .int .i64 off] w fun e w' => e = .returned (refAtV l' off) ∧ Same w w' := by
  refine (cs_at P.c off f0 f1 (by omega) P.inv.rise fun x hx => ⟨(P.asked x hx).1, (P.asked x hx).2.1, (P.asked x hx).2.2.2.1, (P.asked x hx).2.2.2.2.1⟩).mono ?_
  rintro e w1 ⟨r, hr, rfl, h1, h2, hk⟩
  exact ⟨by rw [at_alike P.inv P.e off r hr h1 h2], hk⟩
theorem pair_at' (P : Pair w w0.heap.size cb rb R M V Vb l l' hi mi) (off : Int) (f0 : -9223372036854775808 ≤ off) (f1 : off ≤ 9223372036854775807) (hll : l.length ≤ 1000) :
    Calls Tryz.prog 43 #[.pointer (some ⟨rb, 0, none⟩), .int .i64 off] w fun e w' => e = .returned (refAtV l' off) ∧ Same w w' :=
  rf_at P.r (by have := P.len' hll; omega) off f0 f1 fun x hx => ⟨(P.asked' x hx).1, (P.asked' x hx).2.1, (P.asked' x hx).2.2.1, (P.asked' x hx).2.2.2.1⟩
theorem out_bd (h : ∀ x ∈ l, 0 ≤ x.1.pos ∧ x.1.pos ≤ 1000000 ∧ x.1.bs.length ≤ 5000 ∧ x.1.rs.length ≤ 5000 ∧ RiseR x.1.rs ∧ ∀ r ∈ x.1.rs, 0 ≤ r.off ∧ r.off ≤ 1000000) : ∀ x ∈ l, 0 ≤ x.1.pos ∧ x.1.pos ≤ 1000000 ∧ x.1.rs.length ≤ 5000 ∧ ∀ r ∈ x.1.rs, 0 ≤ r.off ∧ r.off ≤ 1000000 := fun x hx => ⟨(h x hx).1, (h x hx).2.1, (h x hx).2.2.2.1, (h x hx).2.2.2.2.2⟩
theorem pairSame (P : Pair w w0.heap.size cb rb R M V Vb l l' hi mi) {w2 : World} (k : Same w w2) {kd : Int} {kk : Int × Int} (hk : kd ≠ 3) : StepQ w0 w cb rb R V Vb l hi mi kd kk 0 w2 := PairQ.step (W := w) ⟨M, V, Vb, l, l', P.same k, by omega, k.mono fun _ _ h => h.elim, fun _ _ h => h⟩ (Keeps.refl _ _) hk
attribute [local go_sem ↓] x_stKy x_stRw x_stLd x_stOu x_stRb x_stCd x_stBk x_stLk
attribute [local go_sem] st_Ky st_Rw st_Ld st_Ou st_Rb st_Cd st_Bk st_Lk ne_s1 en_s1 ne_s2 en_s2 ne_s3 en_s3 ne_s4 en_s4 ne_s5 en_s5 ne_s6 en_s6 ne_s7 en_s7 ne_s8 en_s8 lt_s2 lt_s3 lt_s4 lt_s5 lt_s6 lt_s7 lt_s8 rowAt_at rowAt_old rowAt_drew rowAt_drewN setRow_drew setRow_at setRow_old setRow_setRow rowAt_setRow_eq rowAt_setRow_ne cell_setRow_eq cell_setRow_ne frozen_setRow_eq frozen_setRow_ne ones_lit oc_int oc_bool oc_str oc_ptr oc_sl oc_map oc_fn oc_nf oc_ni oc_if
attribute [local go_sem ↓] x_neKy x_neRw x_neOu x_eqKy x_eqRw x_eqOu
attribute [local go_sem] ne_Ky ne_Rw ne_Ou eq_Ky eq_Rw eq_Ou
set_option maxRecDepth 100000 in
set_option maxHeartbeats 4000000 in
theorem step_at (P : Pair w w0.heap.size cb rb R M V Vb l l' hi mi) (n k1 k2 : Int) (b : Bk) (n0 : -9223372036854775808 ≤ n) (n1 : n ≤ 9223372036854775807) (hll : l.length ≤ 1000) :
    Calls Tryz.prog 10 #[.pointer (some ⟨cb, 0, none⟩), .pointer (some ⟨rb, 0, none⟩), .agg (stepA 4 n k1 k2 b)] w fun e w' => e = .returned (.bool true) ∧ StepQ w0 w cb rb R V Vb l hi mi 4 (k1, k2) 0 w' := by
  have k0 := (Keeps.refl (fun _ => False) w).alloc (.cells (stepA 4 n k1 k2 b) 38)
  have HP0 := hidE P
  have HPP := hidE (P.same k0)
  have B0 := hidE (block_new w (.cells (stepA 4 n k1 k2 b) 38))
  have HK0 := hidE k0
  simp only [stepA] at *
  obtain ⟨q1, q2, a, bb, c, d, is, hV⟩ := refAtV_form l' n
  have HA := hidE (pair_at HPP.out n n0 n1 hll)
  have HA' := hidE (fun u (hu : Same (w.alloc (.cells #[.int .i64 4, .int .i64 n, .int .u32 k1, .int .u32 k2, .slice b.ia b.n b.cn, .slice b.aa b.m b.cm, .int .u32 b.next, .int .u32 b.to, .int .i64 b.fin, b.fr, b.tb] 38)) u) => pair_at' (HPP.out.same hu) n n0 n1 hll)
  rw [hV] at HA HA'
  have s2 := same2_self q1 q2
  have s4 := same4_self a bb c d
  have s1 : (is == is) = true := by simp
  clear P k0 hV
  go_enter Tryz.func10, Tryz.ntmps10
  go_wp2_with fail
  refine HA.out.mono ?_
  rintro _ w1 ⟨rfl, hk⟩
  have k1' := (hk.alloc (.cells #[.int .u32 q1, .int .u32 q2] 31)).alloc (.cells #[.int .i64 a, .int .u32 bb, .int .i64 c, .int .i64 d] 49)
  have HK1 := hidE k1'
  have R1 := hidE (block_old (.cells #[.int .i64 a, .int .u32 bb, .int .i64 c, .int .i64 d] 49) (block_new w1 (.cells #[.int .u32 q1, .int .u32 q2] 31)))
  have R2 := hidE (block_atR (.cells #[.int .i64 a, .int .u32 bb, .int .i64 c, .int .i64 d] 49) (by simp : (w1.alloc (.cells #[.int .u32 q1, .int .u32 q2] 31)).heap.size = w1.heap.size + 1))
  have c1 := cell_of (k1'.get B0.out id)
  clear hk k1' HA
  go_wp2_with fail
  obtain ⟨W1, hW1⟩ : ∃ W1, (w1.alloc (.cells #[.int .u32 q1, .int .u32 q2] 31)).alloc (.cells #[.int .i64 a, .int .u32 bb, .int .i64 c, .int .i64 d] 49) = W1 := ⟨_, rfl⟩
  rw [hW1] at HK1 R1 R2 c1 ⊢
  clear hW1
  refine (HA'.out _ HK1.out).mono ?_
  rintro _ w2 ⟨rfl, hk⟩
  have k2' := ((Keeps.refl (fun _ => False) w2).alloc (.cells #[.int .u32 q1, .int .u32 q2] 31)).alloc (.cells #[.int .i64 a, .int .u32 bb, .int .i64 c, .int .i64 d] 49)
  have HK2 := hidE ((HK1.out.trans hk).trans k2')
  have c11 := cell_of (k2'.get (hk.get R1.out id) id)
  have c12 := cell_of (k2'.get (hk.get R2.out id) id)
  clear hk k2' c1 HA' R1 R2
  go_wp2
  go_ret
  exact ⟨rfl, pairSame HP0.out (HK0.out.trans HK2.out) (by decide)⟩
set_option maxRecDepth 100000 in
set_option maxHeartbeats 4000000 in
theorem step_out (P : Pair w w0.heap.size cb rb R M V Vb l l' hi mi) (n k1 k2 : Int) (b : Bk) (n0 : -9223372036854775808 ≤ n) (n1 : n ≤ 9223372036854775807) (hll : l.length ≤ 1000) :
    Calls Tryz.prog 10 #[.pointer (some ⟨cb, 0, none⟩), .pointer (some ⟨rb, 0, none⟩), .agg (stepA 5 n k1 k2 b)] w fun e w' => e = .returned (.bool true) ∧ StepQ w0 w cb rb R V Vb l hi mi 5 (k1, k2) 0 w' := by
  have k0 := (Keeps.refl (fun _ => False) w).alloc (.cells (stepA 5 n k1 k2 b) 38)
  have HP0 := hidE P
  have HPP := hidE (P.same k0)
  have B0 := hidE (block_new w (.cells (stepA 5 n k1 k2 b) 38))
  have HK0 := hidE k0
  simp only [stepA] at *
  obtain ⟨q1, q2, o, p, is, hV, hV'⟩ := out_alike P.inv P.e n
  have HO := hidE (cs_out HPP.out.c n n0 n1 (HPP.out.own_ hll) (by omega) (out_bd HPP.out.asked))
  have HO' := hidE (fun u (hu : Same (w.alloc (.cells #[.int .i64 5, .int .i64 n, .int .u32 k1, .int .u32 k2, .slice b.ia b.n b.cn, .slice b.aa b.m b.cm, .int .u32 b.next, .int .u32 b.to, .int .i64 b.fin, b.fr, b.tb] 38)) u) => rf_out (HPP.out.same hu).r (by have := HPP.out.len' hll; omega) n (out_bd HPP.out.asked'))
  have HS := hidE (fun u (hu : Same (w.alloc (.cells #[.int .i64 5, .int .i64 n, .int .u32 k1, .int .u32 k2, .slice b.ia b.n b.cn, .slice b.aa b.m b.cm, .int .u32 b.next, .int .u32 b.to, .int .i64 b.fin, b.fr, b.tb] 38)) u) => cs_asks (HPP.out.same hu).c n n0 n1 (HPP.out.own_ hll) (by omega))
  have HS' := hidE (fun u (hu : Same (w.alloc (.cells #[.int .i64 5, .int .i64 n, .int .u32 k1, .int .u32 k2, .slice b.ia b.n b.cn, .slice b.aa b.m b.cm, .int .u32 b.next, .int .u32 b.to, .int .i64 b.fin, b.fr, b.tb] 38)) u) => rf_asks (HPP.out.same hu).r (by have := HPP.out.len' hll; omega) n (out_bd HPP.out.asked'))
  rw [hV] at HO
  rw [hV'] at HO'
  rw [asks_alike P.inv P.e n] at HS
  generalize refAsksB l' n = ask at *
  have s4 := same4_self q1 q2 o p
  have s1 : (is == is) = true := by simp
  have s5 : (ask == ask) = true := by simp
  clear P k0 hV hV'
  go_enter Tryz.func10, Tryz.ntmps10
  go_wp2_with fail
  refine HO.out.mono ?_
  rintro _ w1 ⟨rfl, hk⟩
  have k1' := hk.alloc (.cells #[.int .u32 q1, .int .u32 q2, .int .i64 o, .int .u32 p] 43)
  have HK1 := hidE k1'
  have R1 := hidE (block_new w1 (.cells #[.int .u32 q1, .int .u32 q2, .int .i64 o, .int .u32 p] 43))
  have c1 := cell_of (k1'.get B0.out id)
  clear hk k1' HO
  go_wp2_with fail
  obtain ⟨W1, hW1⟩ : ∃ W1, w1.alloc (.cells #[.int .u32 q1, .int .u32 q2, .int .i64 o, .int .u32 p] 43) = W1 := ⟨_, rfl⟩
  rw [hW1] at HK1 R1 c1 ⊢
  clear hW1
  refine (HO'.out _ HK1.out).mono ?_
  rintro _ w2 ⟨rfl, hk⟩
  have k2' := (Keeps.refl (fun _ => False) w2).alloc (.cells #[.int .u32 q1, .int .u32 q2] 31)
  have HK2 := hidE ((HK1.out.trans hk).trans k2')
  have R2 := hidE (k2'.get (hk.get R1.out id) id)
  have R3 := hidE (block_new w2 (.cells #[.int .u32 q1, .int .u32 q2] 31))
  clear hk k2' c1 HO' R1
  go_wp2_with fail
  obtain ⟨W2, hW2⟩ : ∃ W2, w2.alloc (.cells #[.int .u32 q1, .int .u32 q2] 31) = W2 := ⟨_, rfl⟩
  rw [hW2] at HK2 R2 R3 ⊢
  clear hW2
  refine wp_region_ra [0, 1, 2, 3, 4, 5, 6, 7, 8, 9, 10, 11, 12, 13, 14, 15, 16, 17, 18, 19, 20, 21] [22] 0 (Same _) (by kernel_rfl) (by kernel_rfl) (fun u u' h k => Keeps.trans h k) (Keeps.refl _ _).drew ?_; simp only [opsOf, List.filterMap_cons, List.filterMap_nil, List.getElem?_cons_zero, List.getElem?_cons_succ]
  repeat (first | (refine seqV_run (v := ?_) rfl (fun u hu => ?_) ?_; rotate_left; (focus (have d1 := cell_of (hu.get R2.out id); have d2 := cell_of (hu.get R3.out id); have d3 := cell_of (hu.get (HK2.out.get B0.out id) id); clear hu; go_simp; first | done | with_reducible rfl)); (try simp only [Act.put, List.setIfInBounds_toArray, List.set_cons_zero, List.set_cons_succ])) | (refine seqV_no rfl ?_; (try simp only [Act.put, List.setIfInBounds_toArray, List.set_cons_zero, List.set_cons_succ])))
  (refine seqV_call (f := 39) (args := #[.pointer (some ⟨cb, 0, none⟩), .int .i64 n]) (v := .bool ask) rfl (fun u hu => ?_) (fun u hu => (HS.out u (HK2.out.trans hu)).mono (by rintro _ _ ⟨rfl, hk⟩; exact ⟨rfl, hk⟩)) ?_; (focus (clear hu; go_simp)); (try simp only [Act.put, List.setIfInBounds_toArray, List.set_cons_zero, List.set_cons_succ]))
  repeat (first | (refine seqV_run (v := ?_) rfl (fun u hu => ?_) ?_; rotate_left; (focus (have d1 := cell_of (hu.get R2.out id); have d2 := cell_of (hu.get R3.out id); have d3 := cell_of (hu.get (HK2.out.get B0.out id) id); clear hu; go_simp; first | done | with_reducible rfl)); (try simp only [Act.put, List.setIfInBounds_toArray, List.set_cons_zero, List.set_cons_succ])) | (refine seqV_no rfl ?_; (try simp only [Act.put, List.setIfInBounds_toArray, List.set_cons_zero, List.set_cons_succ])))
  (refine seqV_call (f := 45) (args := #[.pointer (some ⟨rb, 0, none⟩), .int .i64 n]) (v := .bool ask) rfl (fun u hu => ?_) (fun u hu => (HS'.out u (HK2.out.trans hu)).mono (by rintro _ _ ⟨rfl, hk⟩; exact ⟨rfl, hk⟩)) ?_; (focus (clear hu; go_simp)); (try simp only [Act.put, List.setIfInBounds_toArray, List.set_cons_zero, List.set_cons_succ]))
  repeat (first | (refine seqV_run (v := ?_) rfl (fun u hu => ?_) ?_; rotate_left; (focus (clear hu; go_simp; first | done | with_reducible rfl)); (try simp only [Act.put, List.setIfInBounds_toArray, List.set_cons_zero, List.set_cons_succ])) | (refine seqV_no rfl ?_; (try simp only [Act.put, List.setIfInBounds_toArray, List.set_cons_zero, List.set_cons_succ])))
  refine seqV_nil ?_
  refine tailR_zero fun u5 hu _ => ?_
  (try simp only [Act.put, List.setIfInBounds_toArray, List.set_cons_zero, List.set_cons_succ])
  have HK5 := hidE (HK2.out.trans hu)
  clear hu
  go_wp2
  go_ret
  exact ⟨rfl, pairSame HP0.out (HK0.out.trans HK5.out) (by decide)⟩
end
end Go.Proofs.YtomphgpplbekiaaGreat
namespace Go.Proofs.YtomphgpplbekiaaGreat
open Go.RowKit
attribute [local go_sem ↓] Go.wp_at_zero Go.wp_at_succ
section
variable {w0 w w' : World} {cb rb : Nat} {R : RamAt} {M : List Int} {V : CV} {Vb : Value} {l l' : List Fb} {hi mi : Int}
theorem DropQ.same {f : Int} {w2 w3 : World} (h : DropQ w0 w cb rb R V Vb l l' hi mi f w2) (k : Same w2 w3) : DropQ w0 w cb rb R V Vb l l' hi mi f w3 := by
  obtain ⟨M', h1, h2⟩ := h
  exact ⟨M', h1.same k, h2.trans (k.mono fun _ _ h => h.elim)⟩
theorem DropQ.from {f : Int} {W w2 : World} (h : DropQ w0 W cb rb R V Vb l l' hi mi f w2) (k : Same w W) : DropQ w0 w cb rb R V Vb l l' hi mi f w2 := by
  obtain ⟨M', h1, h2⟩ := h
  exact ⟨M', h1, (k.mono fun _ _ h => h.elim).trans h2⟩
def KeyRow (W u : World) (v : Value) (K : List (List Value)) : Prop := RowX u W.heap.size 31 2 v K
theorem keyRow_of {W u : World} {B : Nat} {v : Value} {K : List (List Value)} (h : RowX u B 31 2 v K) (hB : W.heap.size ≤ B) : KeyRow W u v K := ⟨own_base h.own hB, h.len⟩
theorem KeyRow.same {W u u' : World} {v : Value} {K : List (List Value)} (h : KeyRow W u v K) (k : Same u u') : KeyRow W u' v K := RowX.keeps h k fun _ _ => id
attribute [local go_sem ↓] x_stKy x_stRw x_stLd x_stOu x_stRb x_stCd x_stBk x_stLk
attribute [local go_sem] st_Ky st_Rw st_Ld st_Ou st_Rb st_Cd st_Bk st_Lk ne_s1 en_s1 ne_s2 en_s2 ne_s3 en_s3 ne_s4 en_s4 ne_s5 en_s5 ne_s6 en_s6 ne_s7 en_s7 ne_s8 en_s8 lt_s2 lt_s3 lt_s4 lt_s5 lt_s6 lt_s7 lt_s8 rowAt_at rowAt_old rowAt_drew rowAt_drewN setRow_drew setRow_at setRow_old setRow_setRow rowAt_setRow_eq rowAt_setRow_ne cell_setRow_eq cell_setRow_ne frozen_setRow_eq frozen_setRow_ne ones_lit oc_int oc_bool oc_str oc_ptr oc_sl oc_map oc_fn oc_nf oc_ni oc_if
set_option maxRecDepth 100000 in
set_option maxHeartbeats 4000000 in
theorem step_drop (P : Pair w w0.heap.size cb rb R M V Vb l l' hi mi) (n k1 k2 : Int) (b : Bk) (hll : l.length ≤ 1000) :
    Calls Tryz.prog 10 #[.pointer (some ⟨cb, 0, none⟩), .pointer (some ⟨rb, 0, none⟩), .agg (stepA 1 n k1 k2 b)] w fun e w' => e = .returned (.bool true) ∧ StepQ w0 w cb rb R V Vb l hi mi 1 (k1, k2) 0 w' := by
  have k0 := (Keeps.refl (fun _ => False) w).alloc (.cells (stepA 1 n k1 k2 b) 38)
  have HPP := hidE (P.same k0)
  have B0 := hidE (block_new w (.cells (stepA 1 n k1 k2 b) 38))
  have HK0 := hidE k0
  have HKF := hidE (keysForm l n (liveIdx l l.length) fun j hj => liveIdx_lt hj)
  have hKl := dropK_len l n
  have LT := hidE P.lt
  simp only [stepA] at *
  obtain ⟨W, hW⟩ : ∃ W, w.alloc (.cells #[.int .i64 1, .int .i64 n, .int .u32 k1, .int .u32 k2, .slice b.ia b.n b.cn, .slice b.aa b.m b.cm, .int .u32 b.next, .int .u32 b.to, .int .i64 b.fin, b.fr, b.tb] 38) = W := ⟨_, rfl⟩
  rw [hW] at HPP B0 HK0
  have LTW := hidE HPP.out.lt
  have hd : ∀ u, Same W u → Calls Tryz.prog 36 #[.pointer (some ⟨cb, 0, none⟩), .int .i64 n] u (fun e w1 => ∃ v, e = .returned v ∧ Keeps (WB cb rb R V Vb) W w1 ∧ KeyRow W w1 v (dropK l n (liveIdx l l.length)) ∧
      ∀ u2, Same w1 u2 → Calls Tryz.prog 41 #[.pointer (some ⟨rb, 0, none⟩), .int .i64 n] u2 (fun e w2 => ∃ v2, e = .returned v2 ∧ KeyRow W w2 v2 (dropK l n (liveIdx l l.length)) ∧ Keeps (fun g => RW rb Vb g) u2 w2 ∧ DropQ w0 W cb rb R V Vb l l' hi mi n w2)) := fun u hu => by
    refine (pair_drop (HPP.out.same hu) n hll).mono ?_
    rintro e w1 ⟨v, rfl, h1, h2, h3, h4⟩
    refine ⟨v, rfl, (hu.mono fun _ _ h => h.elim).trans (h2.mono fun _ _ h => .inl h), keyRow_of h1 hu.size, fun u2 hu2 => (h4 u2 hu2).mono ?_⟩
    rintro e w2 ⟨v2, rfl, h5, h6, h7⟩
    exact ⟨v2, rfl, keyRow_of h5 (by have := hu.size; have := h2.size; have := hu2.size; omega), h6, h7.from hu⟩
  have HD := hidE hd
  generalize hK : dropK l n (liveIdx l l.length) = K at *
  clear hd hK P k0
  have HNB : Hid (∀ g, WB cb rb R V Vb g → g ≠ w.heap.size) := hidE fun g hg e => by have := LT.out g hg; omega
  go_enter Tryz.func10, Tryz.ntmps10
  have c0 := cell_of B0.out
  go_wp2_with fail
  try rw [hW]
  clear c0 hW
  refine wp_region_rs [0, 1, 2, 4, 5, 6] [3, 7, 8] [] [9] 0 (Keeps (WB cb rb R V Vb) W) (Same W) (by kernel_rfl) (by kernel_rfl) (fun u u' h k => h.trans (k.mono fun _ _ h => h.elim)) (Keeps.refl _ _).drew (fun u u' h k => h.trans k) (Keeps.refl _ _).drew ?_
  simp only [opsOf, List.filterMap_cons, List.filterMap_nil, List.getElem?_cons_zero, List.getElem?_cons_succ]
  repeat (first | (refine seqV_run (v := ?_) rfl (fun u hu => ?_) ?_; rotate_left; (focus (have d1 := cell_of (hu.get B0.out fun e => HNB.out _ e rfl); clear hu; go_simp; first | done | with_reducible rfl)); (try simp only [Act.put, List.setIfInBounds_toArray, List.set_cons_zero, List.set_cons_succ])) | (refine seqV_no rfl ?_; (try simp only [Act.put, List.setIfInBounds_toArray, List.set_cons_zero, List.set_cons_succ])))
  refine seqV_nil ?_
  refine chainS_call (f := 36) (args := #[.pointer (some ⟨cb, 0, none⟩), .int .i64 n]) (fun x u => KeyRow W u x K ∧ ∀ u2, Same u u2 → Calls Tryz.prog 41 #[.pointer (some ⟨rb, 0, none⟩), .int .i64 n] u2 (fun e w2 => ∃ v2, e = .returned v2 ∧ KeyRow W w2 v2 K ∧ Keeps (fun g => RW rb Vb g) u2 w2 ∧ DropQ w0 W cb rb R V Vb l l' hi mi n w2)) rfl (fun x u u' h k => ⟨h.1.same k, fun u2 hu2 => h.2 u2 (k.trans hu2)⟩) (fun u hu hp => by clear hu hp; go_simp) (fun u hu hp => (HD.out u hp).mono (by
    rintro e w1 ⟨v, rfl, h1, h2, h3⟩
    exact ⟨v, rfl, h1, h2, h3⟩)) (fun v hv => ?_)
  obtain ⟨_, _, hv1, _⟩ := hv
  obtain ⟨p1, c1, rfl⟩ := hv1.sl
  clear hv1
  (try simp only [Act.put, List.setIfInBounds_toArray, List.set_cons_zero, List.set_cons_succ])
  refine chainS_call (f := 41) (args := #[.pointer (some ⟨rb, 0, none⟩), .int .i64 n]) (fun x u => KeyRow W u x K ∧ KeyRow W u (.slice p1 K.length c1) K ∧ DropQ w0 W cb rb R V Vb l l' hi mi n u) rfl (fun x u u' h k => ⟨h.1.same k, h.2.1.same k, h.2.2.same k⟩) (fun u hu hp => by clear hu hp; go_simp) (fun u hu hp => (hp.2 u (Keeps.refl _ _)).mono (by
    rintro e w2 ⟨v2, rfl, h1, h2, h3⟩
    exact ⟨v2, rfl, hu.trans (h2.mono fun _ _ h => .inr h), h1, RowX.keeps hp.1 h2 (fun g hg e => by have h4 := (RowX.lt hp.1 g hg).1; have h5 := LTW.out g (.inr e); omega), h3⟩)) (fun v hv => ?_)
  obtain ⟨_, _, hv1, _⟩ := hv
  obtain ⟨p2, c2, rfl⟩ := hv1.sl
  clear hv1
  (try simp only [Act.put, List.setIfInBounds_toArray, List.set_cons_zero, List.set_cons_succ])
  refine chainS_call (f := 32) (args := #[.slice p1 K.length c1, .slice p2 K.length c2]) (fun x u => x = .bool true ∧ DropQ w0 W cb rb R V Vb l l' hi mi n u) rfl (fun x u u' h k => ⟨h.1, h.2.same k⟩) (fun u hu hp => by clear hu hp; go_simp) (fun u hu hp => (keys_same u _ _ _ _ K HKF.out hp.2.1 hp.1 (by omega)).mono (by
    rintro e w2 ⟨rfl, hk⟩
    exact ⟨_, rfl, hu.trans (hk.mono fun _ _ h => h.elim), rfl, hp.2.2.same hk⟩)) (fun v hv => ?_)
  obtain ⟨_, _, rfl, _⟩ := hv
  (try simp only [Act.put, List.setIfInBounds_toArray, List.set_cons_zero, List.set_cons_succ])
  refine chainS_nil ?_
  refine seqV_nil ?_
  refine tailR_zero fun u5 hu hp => ?_
  (try simp only [Act.put, List.setIfInBounds_toArray, List.set_cons_zero, List.set_cons_succ])
  have HQ := hidE (hp.2.from HK0.out)
  clear hu hp
  go_wp2
  go_ret
  obtain ⟨M', h1, h2⟩ := HQ.out
  exact ⟨rfl, M', V, Vb, _, _, h1, by rw [dropTo_len]; omega, h2, fun B _ hF => dropTo_keeps (P := FrB B) (fun L k g hg h f hf => by
    rcases List.mem_or_eq_of_mem_set hf with hf | rfl
    · exact h f hf
    · exact h g (List.mem_of_getElem? hg)) hF _⟩
/-- Any step. -/
theorem step_any (P : Pair w w0.heap.size cb rb R M V Vb l l' hi mi) (h0 : Same w0 w) (kd n k1 k2 : Int) (b : Bk) (xs : List Int) (hs : StepOk w0 kd n k1 k2 b xs) (hlx : xs.length * 8 ≤ 140737488355328) (hh : 0 ≤ hi ∧ hi < 1000) (hm : 0 ≤ mi ∧ mi < 1000) (hll : l.length ≤ 1000) :
    Calls Tryz.prog 10 #[.pointer (some ⟨cb, 0, none⟩), .pointer (some ⟨rb, 0, none⟩), .agg (stepA kd n k1 k2 b)] w fun e w' => e = .returned (.bool true) ∧ StepQ w0 w cb rb R V Vb l hi mi kd (k1, k2) xs.length w' := by
  by_cases e0 : kd = 0
  · subst e0; exact step_put P h0 n k1 k2 b hs.blk xs hs.frs hlx hll
  by_cases e1 : kd = 1
  · subst e1; exact (step_drop P n k1 k2 b hll).mono fun e w' h => ⟨h.1, h.2.more _⟩
  by_cases e2 : kd = 2
  · subst e2; exact (step_flush P h0 n k1 k2 b).mono fun e w' h => ⟨h.1, h.2.more _⟩
  by_cases e3 : kd = 3
  · subst e3; exact (step_find P h0 n k1 k2 b hh hm hll).mono fun e w' h => ⟨h.1, h.2.more _⟩
  by_cases e4 : kd = 4
  · subst e4; exact (step_at P n k1 k2 b hs.n0 hs.n1 hll).mono fun e w' h => ⟨h.1, h.2.more _⟩
  by_cases e5 : kd = 5
  · subst e5; exact (step_out P n k1 k2 b hs.n0 hs.n1 hll).mono fun e w' h => ⟨h.1, h.2.more _⟩
  exact (step_none P kd n k1 k2 b ⟨e0, e1, e2, e3, e4, e5⟩).mono fun e w' h => ⟨h.1, h.2.more _⟩
theorem tally_bd (L : List Fp) (kd : Int) (k : Int × Int) {hi mi : Int} {m : Int} (h1 : 0 ≤ hi ∧ hi ≤ m) (h2 : 0 ≤ mi ∧ mi ≤ m) : (0 ≤ (tally L kd k hi mi).1 ∧ (tally L kd k hi mi).1 ≤ m + 1) ∧ 0 ≤ (tally L kd k hi mi).2 ∧ (tally L kd k hi mi).2 ≤ m + 1 := by
  unfold tally
  split
  · split
    · simp only; omega
    · simp only; omega
  · simp only; omega
end
end Go.Proofs.YtomphgpplbekiaaGreat
namespace Go.Proofs.YtomphgpplbekiaaGreat
open Go.RowKit

/-- The steps, as they can be read. -/
def StepsOk (w : World) (a : Option Addr) (len B : Nat) : Prop := ∀ i, i < len → ∃ kd n k1 k2 b xs, StepOk w kd n k1 k2 b xs ∧ xs.length ≤ B ∧ ∃ g o, a = some ⟨g, o, none⟩ ∧ g < w.heap.size ∧ ∀ (j : Nat) v, (stepA kd n k1 k2 b).toList[j]? = some v → w.cell? ⟨g, o + (i * 11 + j), none⟩ = some v
theorem steps_open {Z : TypeId → Nat → Prop} {B : Nat} (hZ : ∀ m, Z 3 m → m ≤ B) {w : World} {a : Option Addr} {len cap : Nat} (h : RdV Tryz.prog w 22 [.slice a len cap]) (hz : RdZV Z Tryz.prog w 22 [.slice a len cap]) : StepsOk w a len B ∧ len ≤ cap ∧ cap ≤ maxLen := by
  have kc : Tryz.prog.cellsOf 38 = 11 := by kernel_rfl
  have k1 : Tryz.prog.cellsOf 36 = 7 := by kernel_rfl
  have k2 : Tryz.prog.cellsOf 34 = 1 := by kernel_rfl
  rcases h.slice Tryz.underlying22 with h | ⟨a', l', c', he, h1, h2, h3⟩
  · simp at h
    obtain ⟨rfl, rfl, rfl⟩ := h
    exact ⟨fun i hi => by omega, by omega, by omega⟩
  · simp at he
    obtain ⟨rfl, rfl, rfl⟩ := he
    refine ⟨fun i hi => ?_, h1, h2⟩
    rcases hz.slice Tryz.underlying22 with h | ⟨a2, l2, c2, he, -, h4⟩
    · simp at h
    · simp at he
      obtain ⟨rfl, rfl, rfl⟩ := he
      obtain ⟨es, e1, e2, e3⟩ := h3 i hi
      obtain ⟨es', e4, e5, e6⟩ := h4 i hi
      have hee : es = es' := List.ext_getElem? fun j => by
        by_cases hj : j < Tryz.prog.cellsOf 38
        · rw [← (e2 j hj).2, ← e5 j hj]
        · rw [List.getElem?_eq_none (by omega), List.getElem?_eq_none (by omega)]
      subst hee
      obtain ⟨kd, n, k1', k2', b, xs, rfl, hs⟩ := step_open e3
      have hsp : a'.spot = none := (e2 0 (by omega)).1
      obtain ⟨g, o, s⟩ := a'
      simp only at hsp
      subst hsp
      refine ⟨kd, n, k1', k2', b, xs, hs, ?_, g, o, rfl, ?_, fun j v hv => ?_⟩
      · have g3 := e6.struct Tryz.underlying38
        simp [k1] at g3
        have g4 := g3.2.2.2.struct Tryz.underlying36
        simp [k2, stepA] at g4
        have g5 := g4.2.2.2.2.2.1
        obtain ⟨a9, c9, e9, -⟩ := hs.frs
        rcases g5.slice Tryz.underlying34 with h | ⟨a8, l8, c8, h8, h9, -⟩
        · simp [e9] at h
          rw [h.2.1]
          exact Nat.zero_le _
        · simp [e9] at h8
          rw [h8.2.1]
          exact hZ _ h9
      · have := (e2 0 (by omega)).2
        have h0 : (stepA kd n k1' k2' b).toList[0]? = some (.int .i64 kd) := rfl
        rw [h0] at this
        exact lt_of_cell this
      · have hj : j < 11 := by
          have := (List.getElem?_eq_some_iff.1 hv).1
          simpa [stepA] using this
        have := (e2 j (by omega)).2
        rw [kc] at this
        rw [this]
        exact hv
section
variable {w0 w : World} {cb rb : Nat} {R : RamAt} {M : List Int} {V : CV} {Vb : Value} {l l' : List Fb} {hi mi : Int} {n : Nat} {L : List Fp}
theorem Inv.at_exit (h : Inv n L) {j : Nat} {f : Fp} (hf : L[j]? = some f) (hl : f.live = true) {r : Rw} (hr : r ∈ f.rs) : (L.findSome? fun g => (atF g (f.pos + r.off)).map fun q => (g, q)) = some (f, r) := by
  obtain ⟨k, hk, e⟩ := List.getElem_of_mem hr
  have hrk : f.rs[k]? = some r := by rw [List.getElem?_eq_getElem hk, e]
  have hc := (h.code j f hf).1
  have ho := hc.off r hr
  rw [findSome_one L j fun i g hg hne => ?_]
  · rw [hf]
    simp only [Option.bind_some]
    unfold atF
    rw [hl, decide_eq_true (show f.pos ≤ f.pos + r.off by omega), decide_eq_true (show f.pos + r.off < f.pos + (f.bs.length : Nat) by omega)]
    simp only [Bool.and_self, if_true]
    rw [show f.pos + r.off - f.pos = r.off by omega, find_off hc.rise hrk]
    rfl
  · unfold atF
    rcases Nat.lt_or_gt_of_ne hne with hlt | hgt
    · have h3 := h.before hg hf hlt
      rw [decide_eq_false (show ¬ f.pos + r.off < g.pos + (g.bs.length : Nat) by omega)]
      simp
    · have h3 := h.before hf hg hgt
      rw [decide_eq_false (show ¬ g.pos ≤ f.pos + r.off by omega)]
      simp
/-- An exit of a live block: what Out says of it; what lies there; what At says of its place. -/
theorem exit_facts (P : Pair w w0.heap.size cb rb R M V Vb l l' hi mi) (hll : l.length ≤ 1000) {j : Nat} {x : Fb} (hx : l[j]? = some x) (hl : x.1.live = true) {e : Int} (he : e ∈ (exL x.1.rs).map (·.ex)) :
    ∃ (o : Nat) (lo hg off pc dn : Int), outV l e = .tuple #[.agg #[.int .u32 x.1.k1, .int .u32 x.1.k2, .int .i64 (o : Int), .int .u32 pc], .bool true] ∧ o + 2 < 64 * R.n ∧ R.get M o = 113 ∧ R.get M (o + 1) = lo ∧ R.get M (o + 2) = hg ∧ lo + 256 * hg = e ∧ (0 ≤ lo ∧ lo < 256) ∧ (0 ≤ hg ∧ hg < 256) ∧ refAtV l' (o : Int) = .tuple #[.agg #[.int .u32 x.1.k1, .int .u32 x.1.k2], .agg #[.int .i64 off, .int .u32 pc, .int .i64 dn, .int .i64 e], .bool true] ∧ 0 ≤ e ∧ e < 65536 := by
  obtain ⟨r, hr, rfl⟩ := List.mem_map.1 he
  obtain ⟨hr1, hr2⟩ := List.mem_filter.1 hr
  have hr2 : 0 ≤ r.ex := of_decide_eq_true hr2
  have hf : (pl l)[j]? = some x.1 := by simp [pl, hx]
  have hc := (P.inv.code j _ hf).1
  obtain ⟨r', hr'⟩ : ∃ r', x.1.rs.find? (fun q => q.ex == r.ex) = some r' := by
    cases hq : x.1.rs.find? (fun q => q.ex == r.ex) with
    | some r' => exact ⟨r', rfl⟩
    | none =>
      rw [List.find?_eq_none] at hq
      exact absurd (by simp) (hq r hr1)
  have hre : r'.ex = r.ex := by simpa using List.find?_some hr'
  have hrm := List.mem_of_find?_eq_some hr'
  obtain ⟨o, ho, hlen, b0, b1, b2⟩ := hc.leave hrm (by omega)
  have hpos := P.inv.pos_in hf
  have hin := hc.ex_in hr1 hr2
  obtain ⟨en, hen⟩ := Int.eq_ofNat_of_zero_le hr2
  have hown : (ownL (pl l))[en]? = some (j : Int) := ownL_at (pl l) j x.1 en hf (by omega) (by omega)
  have hol := P.inv.own_len
  rw [pl_len] at hol
  have henl := (List.getElem?_eq_some_iff.1 hown).1
  have hL := P.lies j x.1 hf
  obtain ⟨p, hp⟩ := Int.eq_ofNat_of_zero_le hpos.1
  have hpt : x.1.pos.toNat = p := by omega
  rw [hpt] at hL
  rw [hre] at b1 b2
  refine ⟨p + o, r.ex % 256, r.ex / 256 % 256, r'.off, r'.pc, r'.dn, ?_, by omega, hL o _ b0, by rw [Nat.add_assoc]; exact hL (o + 1) _ b1, by rw [Nat.add_assoc]; exact hL (o + 2) _ b2, by omega, by omega, by omega, ?_, hr2, by omega⟩
  · rw [(outV_of l r.ex).1]
    have hown' : ownF (pl l) r.ex = some x.1 := by
      unfold ownF
      rw [if_pos hr2, hen, show ((en : Int)).toNat = en by omega, hown]
      simp only [Option.bind_some]
      rw [show ((j : Int)).toNat = j by omega, hf]
      simp [Option.filter, hl]
    rw [hown']
    simp only [Option.bind_some, hr', Option.map_some]
    rw [show x.1.pos + r'.off = ((p + o : Nat) : Int) by omega]
  · have hq := P.inv.at_exit hf hl hrm
    rw [show x.1.pos + r'.off = ((p + o : Nat) : Int) by omega, P.e] at hq
    have hm : (refAt l' ((p + o : Nat) : Int)).map (fun p => (p.1.1, p.2)) = (pl l').findSome? fun f => (atF f ((p + o : Nat) : Int)).map fun q => (f, q) := findSome_map1 (p := fun x => atR x ((p + o : Nat) : Int)) (q := fun f => atF f ((p + o : Nat) : Int)) (fun x => rfl) l'
    rw [hq] at hm
    unfold refAtV
    cases hz : refAt l' ((p + o : Nat) : Int) with
    | none => rw [hz] at hm; cases hm
    | some z =>
      rw [hz] at hm
      simp at hm
      obtain ⟨h1, h2⟩ := hm
      simp only [h1, h2, rwV, hre]
/-- A key of the live ones. -/
theorem key_facts (P : Pair w w0.heap.size cb rb R M V Vb l l' hi mi) {k : Nat} {c : List Value} (hc : (keysL l)[k]? = some c) : ∃ (j : Nat) (x : Fb), l[j]? = some x ∧ x.1.live = true ∧ c = [.int .u32 x.1.k1, .int .u32 x.1.k2] ∧ exitsL l (x.1.k1, x.1.k2) = (exL x.1.rs).map (·.ex) ∧ ((exL x.1.rs).length = 1 ∨ (exL x.1.rs).length = 2) := by
  obtain ⟨j, hj, rfl⟩ := List.mem_map.1 (List.mem_of_getElem? hc)
  have hjl := liveIdx_lt hj
  have hlv : liveAt l j = true := (List.mem_filter.1 hj).2
  obtain ⟨x, hx⟩ : ∃ x, l[j]? = some x := ⟨_, List.getElem?_eq_getElem hjl⟩
  have hl : x.1.live = true := by simpa [liveAt, hx] using hlv
  have hf : (pl l)[j]? = some x.1 := by simp [pl, hx]
  refine ⟨j, x, hx, hl, by unfold keyAt; rw [hx]; rfl, ?_, ?_⟩
  · unfold exitsL
    rw [idx_self P.inv.nd hf hl]
    simp only [hx]
  · exact (P.inv.code j _ hf).1.exN_
end
end Go.Proofs.YtomphgpplbekiaaGreat
namespace Go.Proofs.YtomphgpplbekiaaGreat
open Go.RowKit
theorem x_ldSt (ρ : Operand → Value) (dst : Option Tmp) (x : Operand) (ty : TypeId) (pos : String) (after : Array Edge) (guard : Option (Nat × Bool)) :
    execOp ρ { dst, op := .load 38 x, type := ty, pos, after, guard } = ldRow 38 (ρ x) := rfl
theorem infoSt : (Tryz.prog.info? 38).map (·.size) = some (10 + 1) := by kernel_rfl
/-- What holds behind k steps. -/
def LoopQ (w0 wr : World) (cb rb : Nat) (R : RamAt) (B k : Nat) : Prop := ∃ M V Vb l l' hi mi, Pair wr w0.heap.size cb rb R M V Vb l l' hi mi ∧ l.length ≤ k ∧ (0 ≤ hi ∧ hi ≤ (k : Int)) ∧ (0 ≤ mi ∧ mi ≤ (k : Int)) ∧ FrB B (pl l)
theorem step_loop {w0 w : World} {cb rb : Nat} {R : RamAt} {M : List Int} {V : CV} {Vb : Value} {l l' : List Fb} {hi mi : Int} {B k : Nat} (P : Pair w w0.heap.size cb rb R M V Vb l l' hi mi) (h0 : Same w0 w) (hl : l.length ≤ k) (hh : 0 ≤ hi ∧ hi ≤ (k : Int)) (hm : 0 ≤ mi ∧ mi ≤ (k : Int)) (hF : FrB B (pl l)) (hk : k ≤ 100) (kd n k1 k2 : Int) (b : Bk) (xs : List Int) (hs : StepOk w0 kd n k1 k2 b xs) (hlx : xs.length ≤ B) (hB : B * 8 ≤ 140737488355328) :
    Calls Tryz.prog 10 #[.pointer (some ⟨cb, 0, none⟩), .pointer (some ⟨rb, 0, none⟩), .agg (stepA kd n k1 k2 b)] w fun e w' => e = .returned (.bool true) ∧ LoopQ w0 w' cb rb R B (k + 1) ∧ Same w0 w' := by
  refine (step_any P h0 kd n k1 k2 b xs hs (by omega) ⟨by omega, by omega⟩ ⟨by omega, by omega⟩ (by omega)).mono ?_
  rintro e w' ⟨rfl, M', V', Vb', m, m', h1, h2, h3, h5⟩
  have h4 := tally_bd (pl l) kd (k1, k2) (m := (k : Int)) hh hm
  exact ⟨rfl, ⟨M', V', Vb', m, m', _, _, h1, by omega, ⟨h4.1.1, by omega⟩, ⟨h4.2.1, by omega⟩, h5 B hlx hF⟩, wr_same P h0 h3 fun g hg => hg⟩
end Go.Proofs.YtomphgpplbekiaaGreat
