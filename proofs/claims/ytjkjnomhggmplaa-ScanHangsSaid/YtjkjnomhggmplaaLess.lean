/- What Scan reckons with a lower bound is the beginning of what it reckons with a greater one; and what is laid in a frame that is none of its own leaves it as it was: the plain laws of ScanLess and ScanHangs. -/
import Derived.Test.YtjkjnomhggmplaaEnds
namespace Go.Proofs.Ytjkjnomhggmplaa
open Go.RowKit

theorem prefix_get {α : Type} {l r : List α} (h : l <+: r) {k : Nat} {x : α} (hk : l[k]? = some x) : r[k]? = some x := by
  obtain ⟨t, rfl⟩ := h
  have hl : k < l.length := (List.getElem?_eq_some_iff.1 hk).1
  rw [List.getElem?_append_left hl]
  exact hk
/-- A block that goes on from another. -/
structure ExtB (b : Bl) (Z : Scanned) : Prop where
  c : Z.c = 0
  a : Z.a = 0
  pi : b.ins <+: Z.b.ins
  pa : b.at_ <+: Z.b.at_
  l : Z.b.at_.length = Z.b.ins.length
  nx : b.ins.length = Z.b.ins.length ∨ Z.b.at_[b.ins.length]? = some (b.next : Int)
theorem lay_next {b : Bl} (h : b.at_.length = b.ins.length) (i : In) (sz : Int) (f : Fd) : (layL b i sz f).at_[b.ins.length]? = some (b.next : Int) := by
  simp only [layL]
  rw [← h]
  simp
theorem goL_ext {R : RamAt} {M : List Int} {root ps : Nat} : ∀ (m : Nat) (b : Bl) (pg : List Int), b.at_.length = b.ins.length → b.ins.length ≠ 0 → ExtB b (goL R M root ps m b pg)
  | 0, b, pg, h, _ => ⟨rfl, rfl, List.prefix_refl _, List.prefix_refl _, h, .inl rfl⟩
  | m + 1, b, pg, h, h0 => by
    simp only [goL]
    generalize fetchL R M root ps b.next = z
    rw [if_neg (fun hh => h0 hh.2)]
    split
    · exact ⟨rfl, rfl, List.prefix_refl _, List.prefix_refl _, h, .inl rfl⟩
    · have hi : b.ins <+: (layL b z.i z.sz z.f).ins := List.prefix_append _ _
      have ha : b.at_ <+: (layL b z.i z.sz z.f).at_ := List.prefix_append _ _
      have hl : (layL b z.i z.sz z.f).at_.length = (layL b z.i z.sz z.f).ins.length := by simp [layL, h]
      have hx := lay_next h z.i z.sz z.f
      split
      · obtain ⟨e1, e2, -, -, -⟩ := endB_same (layL b z.i z.sz z.f) z.i
        exact ⟨rfl, rfl, by rw [e1]; exact hi, by rw [e2]; exact ha, by rw [e1, e2]; exact hl, .inr (by rw [e2]; exact hx)⟩
      · have H := goL_ext (R := R) (M := M) (root := root) (ps := ps) m (layL b z.i z.sz z.f) (z.f.pg.foldl putL pg) hl (by simp [layL])
        exact ⟨H.c, H.a, hi.trans H.pi, ha.trans H.pa, H.l, .inr (prefix_get H.pa hx)⟩
structure LessB (b : Bl) (n : Nat) (Y Z : Scanned) : Prop where
  c : Y.c = Z.c
  a : Y.a = Z.a
  pi : Y.b.ins <+: Z.b.ins
  pa : Y.b.at_ <+: Z.b.at_
  l1 : Y.b.at_.length = Y.b.ins.length
  l2 : Z.b.at_.length = Z.b.ins.length
  en : Y.b.ins.length = Z.b.ins.length ∨ (Y.b.ins.length = b.ins.length + n ∧ Y.b.en = 1 ∧ Z.b.at_[Y.b.ins.length]? = some (Y.b.next : Int))
theorem LessB.same {b : Bl} {n : Nat} {Y : Scanned} (h : Y.b.at_.length = Y.b.ins.length) : LessB b n Y Y :=
  ⟨rfl, rfl, List.prefix_refl _, List.prefix_refl _, h, h, .inl rfl⟩
theorem goL_less {R : RamAt} {M : List Int} {root ps m : Nat} : ∀ (n : Nat) (b : Bl) (pg : List Int), b.at_.length = b.ins.length → b.en = 1 → (1 ≤ n ∨ b.ins.length ≠ 0) → LessB b n (goL R M root ps n b pg) (goL R M root ps (n + m) b pg)
  | 0, b, pg, h, he, h0 => by
    have H := goL_ext (R := R) (M := M) (root := root) (ps := ps) (0 + m) b pg h (by omega)
    refine ⟨H.c.symm, H.a.symm, H.pi, H.pa, h, H.l, ?_⟩
    rcases H.nx with e | e
    · exact .inl e
    · exact .inr ⟨rfl, he, e⟩
  | n + 1, b, pg, h, he, h0 => by
    rw [show n + 1 + m = (n + m) + 1 by omega]
    simp only [goL]
    generalize fetchL R M root ps b.next = z
    have hl : (layL b z.i z.sz z.f).at_.length = (layL b z.i z.sz z.f).ins.length := by simp [layL, h]
    split
    · exact LessB.same rfl
    · split
      · exact LessB.same h
      · split
        · obtain ⟨e1, e2, -, -, -⟩ := endB_same (layL b z.i z.sz z.f) z.i
          exact LessB.same (by rw [e1, e2]; exact hl)
        · have H := goL_less (R := R) (M := M) (root := root) (ps := ps) (m := m) n (layL b z.i z.sz z.f) (z.f.pg.foldl putL pg) hl he (.inr (by simp [layL]))
          refine ⟨H.c, H.a, H.pi, H.pa, H.l1, H.l2, ?_⟩
          rcases H.en with e | ⟨e1, e2, e3⟩
          · exact .inl e
          · exact .inr ⟨by rw [e1]; simp [layL]; omega, e2, e3⟩
theorem limN_of {x : Nat} (h1 : 1 ≤ x) (h2 : x ≤ 32) : limN (x : Int) = x := by unfold limN; omega
theorem scanL_less {R : RamAt} {M : List Int} {root ps pc x y : Nat} (h1 : 1 ≤ x) (h2 : x ≤ 32) (h3 : x ≤ y) :
    LessB ⟨[], [], pc, 0, 1, [], []⟩ x (scanL R M root ps pc x) (scanL R M root ps pc y) := by
  unfold scanL
  obtain ⟨m, hm⟩ : ∃ m, limN (y : Int) = x + m := ⟨limN (y : Int) - x, by unfold limN; omega⟩
  rw [limN_of h1 h2, hm]
  exact goL_less x ⟨[], [], pc, 0, 1, [], []⟩ [] rfl rfl (.inl h1)
/-- The memories are one but for frame q. -/
def BarQ (R : RamAt) (M M' : List Int) (q : Nat) : Prop := ∀ a, a < 64 * R.n → a / 64 ≠ q → R.get M' a = R.get M a
theorem BarQ.word {R : RamAt} {M M' : List Int} {q : Nat} (H : BarQ R M M' q) {a e : Nat} (h : wordO R M a = some e) (hq : a / 64 ≠ q) : wordO R M' a = some e := by
  unfold wordO at h ⊢
  split at h
  · rename_i hc
    rw [if_pos hc]
    have b0 := H a (by omega) hq
    have b1 := H (a + 1) (by omega) (by omega)
    have b2 := H (a + 2) (by omega) (by omega)
    have b3 := H (a + 3) (by omega) (by omega)
    unfold RamAt.word at h ⊢
    rw [b0, b1, b2, b3]
    exact h
  · cases h
theorem lookL_stay {R : RamAt} {M M' : List Int} {q root va : Nat} (H : BarQ R M M' q) {x : WayN} (h : lookL R M root va = some x) (h1 : x.dir ≠ q) (h2 : x.tab ≠ q) : lookL R M' root va = some x := by
  unfold lookL at h ⊢
  split at h
  · cases h
  · rename_i hv
    rw [if_neg hv]
    cases e0 : wordO R M (place0 root va) with
    | none => rw [e0] at h; cases h
    | some x0 =>
      rw [e0] at h
      simp only at h
      split at h
      · cases h
      · rename_i hx0
        cases e1 : wordO R M (place1 x0 va) with
        | none => rw [e1] at h; cases h
        | some x1 =>
          rw [e1] at h
          simp only at h
          split at h
          · cases h
          · rename_i hx1
            split at h
            · cases h
            · rename_i hp
              simp only [Option.some.injEq] at h
              subst h
              rw [H.word e0 h1]
              simp only
              rw [if_neg hx0, H.word e1 h2]
              simp only
              rw [if_neg hx1, if_neg hp]
theorem toL_stay {R : RamAt} {M M' : List Int} {q root ps va a : Nat} {k : Int} (H : BarQ R M M' q) (h : toL R M root ps va k = some a) (ht : ps / 4 % 2 ≠ 0 → ((lookL R M root va).getD way0).dir ≠ q ∧ ((lookL R M root va).getD way0).tab ≠ q) :
    toL R M' root ps va k = some a ∧ (ps / 4 % 2 ≠ 0 → lookL R M' root va = lookL R M root va) := by
  unfold toL at h ⊢
  split at h
  · rename_i hp
    rw [if_pos hp]
    exact ⟨h, fun h' => absurd hp h'⟩
  · rename_i hp
    rw [if_neg hp]
    have ht := ht hp
    cases e : lookL R M root va with
    | none => rw [e] at h; cases h
    | some x =>
      rw [e] at h ht
      simp only [Option.getD_some] at ht
      rw [lookL_stay H e ht.1 ht.2]
      exact ⟨h, fun _ => rfl⟩
theorem byteL_stay {R : RamAt} {M M' : List Int} {q root ps va : Nat} (H : BarQ R M M' q) {f f' : Fd} {x : Int} (h : byteL R M root ps va f = (some x, f')) (h1 : (q : Int) ∉ f'.fr) (h2 : (q : Int) ∉ f'.tb) : byteL R M' root ps va f = (some x, f') := by
  unfold byteL at h ⊢
  cases e : toL R M root ps va 1 with
  | none => rw [e] at h; simp at h
  | some a =>
    rw [e] at h
    simp only [Prod.mk.injEq, Option.some.injEq] at h
    obtain ⟨hx, rfl⟩ := h
    simp only at h1 h2
    have hq : a / 64 ≠ q := fun e' => h1 (mem_putL.2 (.inl (by omega)))
    have ht : ps / 4 % 2 ≠ 0 → ((lookL R M root va).getD way0).dir ≠ q ∧ ((lookL R M root va).getD way0).tab ≠ q := fun hp => by
      rw [if_neg hp] at h2
      exact ⟨fun e' => h2 (mem_putL.2 (.inr (mem_putL.2 (.inl (by rw [e']))))), fun e' => h2 (mem_putL.2 (.inl (by rw [e'])))⟩
    obtain ⟨s1, s2⟩ := toL_stay H e ht
    rw [s1]
    simp only
    rw [H a (toL_lt e) hq, hx]
    by_cases hp : ps / 4 % 2 = 0
    · rw [if_pos hp, if_pos hp]
    · rw [if_neg hp, if_neg hp, s2 hp]
/-- Sets that grow. -/
def GrowF (f f' : Fd) : Prop := (∀ y, y ∈ f.fr → y ∈ f'.fr) ∧ (∀ y, y ∈ f.tb → y ∈ f'.tb)
theorem GrowF.refl (f : Fd) : GrowF f f := ⟨fun _ => id, fun _ => id⟩
theorem GrowF.trans {f g h : Fd} (a : GrowF f g) (b : GrowF g h) : GrowF f h := ⟨fun y hy => b.1 y (a.1 y hy), fun y hy => b.2 y (a.2 y hy)⟩
theorem byteL_growF (R : RamAt) (M : List Int) (root ps va : Nat) (f : Fd) : GrowF f (byteL R M root ps va f).2 := by
  unfold byteL
  split
  · exact GrowF.refl f
  · refine ⟨fun y hy => mem_putL.2 (.inr hy), fun y hy => ?_⟩
    simp only
    split
    · exact hy
    · exact mem_putL.2 (.inr (mem_putL.2 (.inr hy)))
theorem moreL_growF (R : RamAt) (M : List Int) (root ps pc : Nat) : ∀ (k : Nat) (bs : List Int) (f : Fd), GrowF f (moreL R M root ps pc k bs f).2.2
  | 0, _, f => GrowF.refl f
  | k + 1, bs, f => by
    have h1 := byteL_growF R M root ps ((pc + bs.length) % 4294967296) f
    simp only [moreL]
    cases hy : byteL R M root ps ((pc + bs.length) % 4294967296) f with
    | mk a f' =>
      rw [hy] at h1
      cases a with
      | none => exact h1
      | some x => exact h1.trans (moreL_growF R M root ps pc k (bs ++ [x]) f')
theorem moreL_stay {R : RamAt} {M M' : List Int} {q root ps pc : Nat} (H : BarQ R M M' q) : ∀ (k : Nat) (bs : List Int) (f : Fd), (moreL R M root ps pc k bs f).1 = none → (q : Int) ∉ (moreL R M root ps pc k bs f).2.2.fr → (q : Int) ∉ (moreL R M root ps pc k bs f).2.2.tb →
    moreL R M' root ps pc k bs f = moreL R M root ps pc k bs f
  | 0, _, _, _, _, _ => rfl
  | k + 1, bs, f, h0, h1, h2 => by
    simp only [moreL] at h0 h1 h2 ⊢
    cases hy : byteL R M root ps ((pc + bs.length) % 4294967296) f with
    | mk a f' =>
      rw [hy] at h0 h1 h2
      cases a with
      | none => simp at h0
      | some x =>
        simp only at h0 h1 h2 ⊢
        have hg := moreL_growF R M root ps pc k (bs ++ [x]) f'
        rw [byteL_stay H hy (fun e => h1 (hg.1 _ e)) (fun e => h2 (hg.2 _ e))]
        simp only
        exact moreL_stay H k (bs ++ [x]) f' h0 h1 h2
theorem decR_f (pc : Nat) (bs : List Int) (f : Fd) : (decR pc bs f).f = f := by
  unfold decR
  split <;> rfl
theorem fetchL_stay {R : RamAt} {M M' : List Int} {q root ps pc : Nat} (H : BarQ R M M' q) (h0 : (fetchL R M root ps pc).c = 0) (h1 : (q : Int) ∉ (fetchL R M root ps pc).f.fr) (h2 : (q : Int) ∉ (fetchL R M root ps pc).f.tb) :
    fetchL R M' root ps pc = fetchL R M root ps pc := by
  unfold fetchL at h0 h1 h2 ⊢
  cases hy : byteL R M root ps (pc % 4294967296) fd0 with
  | mk a f' =>
    rw [hy] at h0 h1 h2
    cases a with
    | none => simp at h0
    | some x =>
      simp only at h0 h1 h2 ⊢
      unfold restL at h0 h1 h2 ⊢
      have hg := moreL_growF R M root ps pc ((formL (headX [x]) false).n.toNat - [x].length) [x] f'
      have hs := moreL_stay (M' := M') H (root := root) (ps := ps) (pc := pc) ((formL (headX [x]) false).n.toNat - [x].length) [x] f'
      cases hm : moreL R M root ps pc ((formL (headX [x]) false).n.toNat - [x].length) [x] f' with
      | mk o bf =>
        obtain ⟨bs, g⟩ := bf
        rw [hm] at h0 h1 h2 hg hs
        cases o with
        | some va => simp at h0
        | none =>
          simp only [decR_f] at h1 h2
          simp only at hg hs
          rw [byteL_stay H hy (fun e => h1 (hg.1 _ e)) (fun e => h2 (hg.2 _ e))]
          simp only
          rw [hs trivial h1 h2]
theorem goL_grow {R : RamAt} {M : List Int} {root ps : Nat} : ∀ (m : Nat) (b : Bl) (pg : List Int), b.ins.length ≠ 0 → (∀ y, y ∈ b.fr → y ∈ (goL R M root ps m b pg).b.fr) ∧ (∀ y, y ∈ b.tb → y ∈ (goL R M root ps m b pg).b.tb)
  | 0, _, _, _ => ⟨fun _ => id, fun _ => id⟩
  | m + 1, b, pg, h0 => by
    simp only [goL]
    generalize fetchL R M root ps b.next = z
    rw [if_neg (fun hh => h0 hh.2)]
    have hl : (∀ y, y ∈ b.fr → y ∈ (layL b z.i z.sz z.f).fr) ∧ (∀ y, y ∈ b.tb → y ∈ (layL b z.i z.sz z.f).tb) := ⟨fun y hy => (mem_fold _ _).2 (.inr hy), fun y hy => (mem_fold _ _).2 (.inr hy)⟩
    split
    · exact ⟨fun _ => id, fun _ => id⟩
    · split
      · obtain ⟨-, -, e3, e4, -⟩ := endB_same (layL b z.i z.sz z.f) z.i
        simp only [e3, e4]
        exact hl
      · have H := goL_grow (R := R) (M := M) (root := root) (ps := ps) m (layL b z.i z.sz z.f) (z.f.pg.foldl putL pg) (by simp [layL])
        exact ⟨fun y hy => H.1 y (hl.1 y hy), fun y hy => H.2 y (hl.2 y hy)⟩
structure HangB (Y Z : Scanned) : Prop where
  c : Z.c = 0
  pi : Y.b.ins <+: Z.b.ins
  pa : Y.b.at_ <+: Z.b.at_
  l1 : Y.b.at_.length = Y.b.ins.length
  l2 : Z.b.at_.length = Z.b.ins.length
theorem goL_hang {R : RamAt} {M M' : List Int} {root ps q : Nat} (H : BarQ R M M' q) : ∀ (n : Nat) (b : Bl) (pg : List Int), b.at_.length = b.ins.length → (b.ins.length = 0 → pg = []) → (goL R M root ps n b pg).c = 0 → (q : Int) ∉ (goL R M root ps n b pg).b.fr → (q : Int) ∉ (goL R M root ps n b pg).b.tb →
    HangB (goL R M root ps n b pg) (goL R M' root ps n b pg)
  | 0, b, pg, h, _, _, _, _ => ⟨rfl, List.prefix_refl _, List.prefix_refl _, h, h⟩
  | n + 1, b, pg, h, hpg, h0, h1, h2 => by
    have hzi := fetchL_inv R M root ps b.next
    have hx : b.ins.length ≠ 0 → HangB ⟨0, 0, b⟩ (goL R M' root ps (n + 1) b pg) := fun hn => by
      have E := goL_ext (R := R) (M := M') (root := root) (ps := ps) (n + 1) b pg h hn
      exact ⟨E.c, E.pi, E.pa, h, E.l⟩
    simp only [goL] at h0 h1 h2 hx ⊢
    have hf := fetchL_stay (root := root) (ps := ps) (pc := b.next) H
    generalize hz : fetchL R M root ps b.next = z at h0 h1 h2 hf hzi ⊢
    by_cases c0 : z.c ≠ 0 ∧ b.ins.length = 0
    · rw [if_pos c0] at h0
      exact absurd h0 c0.1
    · rw [if_neg c0] at h0 h1 h2 ⊢
      by_cases c1 : z.c ≠ 0 ∨ 2 < (z.f.pg.foldl putL pg).length
      · rw [if_pos c1]
        by_cases hn : b.ins.length = 0
        · have hc : z.c = 0 := by
            by_cases hc : z.c = 0
            · exact hc
            · exact absurd ⟨hc, hn⟩ c0
          have h9 := hpg hn
          subst h9
          have := pages_two hzi.i (z.f.pg.foldl putL []) (rising_fold _ _ List.Pairwise.nil) (fun y hy => by
            rcases (mem_fold _ _).1 hy with h | h
            · exact h
            · simp at h)
          omega
        · exact hx hn
      · rw [if_neg c1] at h0 h1 h2 ⊢
        have hc : z.c = 0 := by
          by_cases hc : z.c = 0
          · exact hc
          · exact absurd (.inl hc) c1
        have hl : (layL b z.i z.sz z.f).at_.length = (layL b z.i z.sz z.f).ins.length := by simp [layL, h]
        have hle : (∀ y, y ∈ z.f.fr → y ∈ (layL b z.i z.sz z.f).fr) ∧ (∀ y, y ∈ z.f.tb → y ∈ (layL b z.i z.sz z.f).tb) := ⟨fun y hy => (mem_fold _ _).2 (.inl hy), fun y hy => (mem_fold _ _).2 (.inl hy)⟩
        obtain ⟨e1, e2, e3, e4, -⟩ := endB_same (layL b z.i z.sz z.f) z.i
        by_cases c2 : 3 ≤ (kindM z.i.op).1
        · rw [if_pos c2] at h0 h1 h2 ⊢
          simp only [e3, e4] at h1 h2
          rw [hf hc (fun e => h1 (hle.1 _ e)) (fun e => h2 (hle.2 _ e)), if_neg c0, if_neg c1, if_pos c2]
          have hll : (endB (layL b z.i z.sz z.f) z.i).at_.length = (endB (layL b z.i z.sz z.f) z.i).ins.length := by rw [e1, e2]; exact hl
          exact ⟨rfl, List.prefix_refl _, List.prefix_refl _, hll, hll⟩
        · rw [if_neg c2] at h0 h1 h2 ⊢
          have hg := goL_grow (R := R) (M := M) (root := root) (ps := ps) n (layL b z.i z.sz z.f) (z.f.pg.foldl putL pg) (by simp [layL])
          rw [hf hc (fun e => h1 (hg.1 _ (hle.1 _ e))) (fun e => h2 (hg.2 _ (hle.2 _ e))), if_neg c0, if_neg c1, if_neg c2]
          exact goL_hang H n _ _ hl (fun e => by simp [layL] at e) h0 h1 h2
theorem scanL_hang {R : RamAt} {M M' : List Int} {root ps pc q : Nat} {most : Int} (H : BarQ R M M' q) (h0 : (scanL R M root ps pc most).c = 0) (h1 : (q : Int) ∉ (scanL R M root ps pc most).b.fr) (h2 : (q : Int) ∉ (scanL R M root ps pc most).b.tb) :
    HangB (scanL R M root ps pc most) (scanL R M' root ps pc most) :=
  goL_hang H _ _ _ rfl (fun _ => rfl) h0 h1 h2
theorem barQ_put {w : World} {R : RamAt} {M : List Int} (H : IsRam w R M) {a : Nat} (ha : a < 64 * R.n) (x : Int) : BarQ R M (R.put M a [x]) (a / 64) := by
  intro i hi hq
  simp only [RamAt.put, RamAt.get]
  have hne : R.pos a ≠ R.pos i := by
    intro e
    unfold RamAt.pos at e
    exact hq (H.inj (i / 64) (a / 64) (by omega) (by omega) (by omega))
  simp only [List.getD_eq_getElem?_getD]
  rw [List.getElem?_set_ne hne]
end Go.Proofs.Ytjkjnomhggmplaa
