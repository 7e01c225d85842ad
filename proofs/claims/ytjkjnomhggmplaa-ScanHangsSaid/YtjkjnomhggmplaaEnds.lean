/- What Scan reckons is as ScanEnds says: the plain law. -/
import Derived.Test.YtjkjnomhggmplaaMade
namespace Go.Proofs.Ytjkjnomhggmplaa
open Go.RowKit

/-- A rising list within two values has two members at most. -/
theorem rising_two {l : List Int} (h : Rising l) (x y : Int) (hm : ∀ z ∈ l, z = x ∨ z = y) : l.length ≤ 2 := by
  match l, h, hm with
  | [], _, _ => simp
  | [_], _, _ => simp
  | [_, _], _, _ => simp
  | a :: b :: c :: r, h, hm =>
    obtain ⟨h1, h2⟩ := List.pairwise_cons.1 h
    obtain ⟨h3, -⟩ := List.pairwise_cons.1 h2
    have ab := h1 b (by simp)
    have ac := h1 c (by simp)
    have bc := h3 c (by simp)
    have ha := hm a (by simp)
    have hb := hm b (by simp)
    have hc := hm c (by simp)
    omega
theorem mem_fold {z : Int} : ∀ (l xs : List Int), z ∈ l.foldl putL xs ↔ z ∈ l ∨ z ∈ xs
  | [], xs => by simp
  | x :: l, xs => by
    rw [List.foldl_cons, mem_fold l (putL xs x), mem_putL, List.mem_cons]
    constructor
    · rintro (h | h | h)
      · exact .inl (.inr h)
      · exact .inl (.inl h)
      · exact .inr h
    · rintro ((h | h) | h)
      · exact .inr (.inl h)
      · exact .inl h
      · exact .inr (.inr h)
/-- The frame of a page. -/
def phi (R : RamAt) (M : List Int) (root ps : Nat) (p : Int) : Int := (((toL R M root ps (64 * p.toNat) 1).getD 0 : Nat) : Int) / 64
theorem toL_page {R : RamAt} {M : List Int} {root ps va a : Nat} (h : toL R M root ps va 1 = some a) : (a : Int) / 64 = phi R M root ps ((va : Int) / 64) := by
  unfold phi
  rw [show ((va : Int) / 64).toNat = va / 64 by omega]
  have e1 : 64 * (va / 64) / 1024 = va / 1024 := by omega
  have e2 : 64 * (va / 64) / 64 % 16 = va / 64 % 16 := by omega
  unfold toL at h ⊢
  split at h
  · rename_i hp
    rw [if_pos hp]
    split at h
    · simp only [Option.some.injEq] at h
      subst h
      rw [if_pos (by omega)]
      simp only [Option.getD_some]
      omega
    · cases h
  · rename_i hp
    rw [if_neg hp]
    unfold lookL at h ⊢
    have p0 : place0 root (64 * (va / 64)) = place0 root va := by unfold place0; rw [e1]
    have p1 : ∀ e, place1 e (64 * (va / 64)) = place1 e va := fun e => by unfold place1; rw [e2]
    rw [e1, p0]
    by_cases hd : 16 ≤ va / 1024
    · rw [if_pos hd] at h; cases h
    rw [if_neg hd] at h ⊢
    cases hw : wordO R M (place0 root va) with
    | none => rw [hw] at h; cases h
    | some x0 =>
      rw [hw] at h
      simp only at h ⊢
      by_cases hm : x0 % 2 = 0
      · rw [if_pos hm] at h; cases h
      rw [if_neg hm] at h ⊢
      rw [p1]
      cases hw1 : wordO R M (place1 x0 va) with
      | none => rw [hw1] at h; cases h
      | some x1 =>
        rw [hw1] at h
        simp only at h ⊢
        by_cases hm1 : x1 % 2 = 0
        · rw [if_pos hm1] at h; cases h
        rw [if_neg hm1] at h ⊢
        by_cases hz : 64 * R.n ≤ place2 x1 va
        · rw [if_pos hz] at h; cases h
        rw [if_neg hz] at h
        have hz2 : ¬ 64 * R.n ≤ place2 x1 (64 * (va / 64)) := by unfold place2 at hz ⊢; omega
        rw [if_neg hz2]
        simp only at h ⊢
        split at h
        · rename_i hb
          rw [if_pos hb]
          simp only [Option.some.injEq] at h
          subst h
          simp only [Option.getD_some]
          unfold place2
          omega
        · cases h
/-- What a fetch has gone through. -/
structure FdI (R : RamAt) (M : List Int) (root ps pc : Nat) (m : Nat) (f : Fd) : Prop where
  pg : ∀ p ∈ f.pg, ∃ k, k < m ∧ p = (((pc + k) % 4294967296 : Nat) : Int) / 64
  fr : ∀ x ∈ f.fr, ∃ p ∈ f.pg, x = phi R M root ps p
  tb : ps / 4 % 2 = 0 → f.tb = []
theorem byteL_inv {R : RamAt} {M : List Int} {root ps pc m k : Nat} {f : Fd} (h : FdI R M root ps pc m f) (hk : k < m + 1) : FdI R M root ps pc (m + 1) (byteL R M root ps ((pc + k) % 4294967296) f).2 := by
  unfold byteL
  split
  · exact ⟨fun p hp => let ⟨j, h1, h2⟩ := h.pg p hp; ⟨j, by omega, h2⟩, h.fr, h.tb⟩
  · rename_i a ha
    refine ⟨fun p hp => ?_, fun x hx => ?_, fun h4 => ?_⟩
    · rcases mem_putL.1 hp with rfl | hp
      · exact ⟨k, hk, rfl⟩
      · obtain ⟨j, h1, h2⟩ := h.pg p hp
        exact ⟨j, by omega, h2⟩
    · rcases mem_putL.1 hx with rfl | hx
      · exact ⟨_, mem_putL.2 (.inl rfl), toL_page ha⟩
      · obtain ⟨p, h1, h2⟩ := h.fr x hx
        exact ⟨p, mem_putL.2 (.inr h1), h2⟩
    · simp only [if_pos h4]
      exact h.tb h4
theorem byteL_grow {R : RamAt} {M : List Int} {root ps va : Nat} {f : Fd} : (f.fr ≠ [] → (byteL R M root ps va f).2.fr ≠ []) ∧ (f.tb ≠ [] → (byteL R M root ps va f).2.tb ≠ []) := by
  unfold byteL
  split
  · exact ⟨id, id⟩
  · refine ⟨fun _ e => ?_, fun h e => ?_⟩
    · have : (‹Nat› : Int) / 64 ∈ putL f.fr ((‹Nat› : Int) / 64) := mem_putL.2 (.inl rfl)
      simp only at e
      rw [e] at this
      simp at this
    · simp only at e
      split at e
      · exact h e
      · have : (((lookL R M root va).getD way0).tab : Int) ∈ putL (putL f.tb (((lookL R M root va).getD way0).dir : Nat)) (((lookL R M root va).getD way0).tab : Nat) := mem_putL.2 (.inl rfl)
        rw [e] at this
        simp at this
theorem byteL_some {R : RamAt} {M : List Int} {root ps va : Nat} {f : Fd} {x : Int} (h : (byteL R M root ps va f).1 = some x) : (byteL R M root ps va f).2.fr ≠ [] ∧ (ps / 4 % 2 ≠ 0 → (byteL R M root ps va f).2.tb ≠ []) := by
  unfold byteL at h ⊢
  split at h
  · cases h
  · rename_i a ha
    simp only
    refine ⟨fun e => ?_, fun h4 e => ?_⟩
    · have : (a : Int) / 64 ∈ putL f.fr ((a : Int) / 64) := mem_putL.2 (.inl rfl)
      rw [e] at this
      simp at this
    · rw [if_neg h4] at e
      have : (((lookL R M root va).getD way0).tab : Int) ∈ putL (putL f.tb (((lookL R M root va).getD way0).dir : Nat)) (((lookL R M root va).getD way0).tab : Nat) := mem_putL.2 (.inl rfl)
      rw [e] at this
      simp at this
theorem moreL_inv {R : RamAt} {M : List Int} {root ps pc : Nat} : ∀ (k : Nat) (bs : List Int) (f : Fd), FdI R M root ps pc bs.length f → FdI R M root ps pc (bs.length + k) (moreL R M root ps pc k bs f).2.2 ∧ (f.fr ≠ [] → (moreL R M root ps pc k bs f).2.2.fr ≠ []) ∧ (f.tb ≠ [] → (moreL R M root ps pc k bs f).2.2.tb ≠ [])
  | 0, bs, f, h => ⟨h, id, id⟩
  | k + 1, bs, f, h => by
    have h1 := byteL_inv (k := bs.length) h (by omega)
    have h2 := byteL_grow (R := R) (M := M) (root := root) (ps := ps) (va := (pc + bs.length) % 4294967296) (f := f)
    simp only [moreL]
    cases hy : byteL R M root ps ((pc + bs.length) % 4294967296) f with
    | mk a f' =>
      rw [hy] at h1 h2
      cases a with
      | none => exact ⟨⟨fun p hp => let ⟨j, q1, q2⟩ := h1.pg p hp; ⟨j, by omega, q2⟩, h1.fr, h1.tb⟩, h2.1, h2.2⟩
      | some x =>
        have := moreL_inv (R := R) (M := M) (root := root) (ps := ps) (pc := pc) k (bs ++ [x]) f' (by rw [List.length_append]; exact h1)
        rw [List.length_append, List.length_cons, List.length_nil] at this
        rw [show bs.length + (k + 1) = bs.length + (0 + 1) + k by omega]
        exact ⟨this.1, fun h => this.2.1 (h2.1 h), fun h => this.2.2 (h2.2 h)⟩
/-- What is known of a fetched instruction. -/
structure FetchI (R : RamAt) (M : List Int) (root ps pc : Nat) (z : Fetched) : Prop where
  i : FdI R M root ps pc 6 z.f
  nf : z.c = 0 → z.f.fr ≠ []
  nt : z.c = 0 → ps / 4 % 2 ≠ 0 → z.f.tb ≠ []
theorem FdI.mono {R : RamAt} {M : List Int} {root ps pc m n : Nat} {f : Fd} (h : FdI R M root ps pc m f) (hm : m ≤ n) : FdI R M root ps pc n f := ⟨fun p hp => let ⟨j, q1, q2⟩ := h.pg p hp; ⟨j, by omega, q2⟩, h.fr, h.tb⟩
theorem fetchL_inv (R : RamAt) (M : List Int) (root ps pc : Nat) : FetchI R M root ps pc (fetchL R M root ps pc) := by
  have h0 : FdI R M root ps pc 0 fd0 := ⟨fun p hp => by simp [fd0] at hp, fun p hp => by simp [fd0] at hp, fun _ => rfl⟩
  have h1 := byteL_inv (k := 0) h0 (by omega)
  have h2 := fun x => byteL_some (R := R) (M := M) (root := root) (ps := ps) (va := pc % 4294967296) (f := fd0) (x := x)
  rw [Nat.add_zero] at h1
  unfold fetchL
  generalize byteL R M root ps (pc % 4294967296) fd0 = Y at h1 h2 ⊢
  obtain ⟨a, f⟩ := Y
  cases a with
    | none => exact ⟨h1.mono (by omega), fun h => by simp at h, fun h => by simp at h⟩
    | some x =>
      obtain ⟨n1, n2⟩ := h2 x rfl
      simp only
      unfold restL
      have h6 := form_n6 (headX [x])
      have h3 := moreL_inv (R := R) (M := M) (root := root) (ps := ps) (pc := pc) ((formL (headX [x]) false).n.toNat - [x].length) [x] f h1
      generalize moreL R M root ps pc ((formL (headX [x]) false).n.toNat - [x].length) [x] f = m at h3
      obtain ⟨q, bs, f'⟩ := m
      have hi : FdI R M root ps pc 6 f' := h3.1.mono (by simp; omega)
      cases q with
      | some va => exact ⟨hi, fun h => by simp at h, fun h => by simp at h⟩
      | none =>
        simp only
        unfold decR
        split
        · exact ⟨hi, fun h => by simp at h, fun h => by simp at h⟩
        · exact ⟨hi, fun _ => h3.2.1 n1, fun _ h4 => h3.2.2 (n2 h4)⟩
theorem pages_two {R : RamAt} {M : List Int} {root ps pc : Nat} {f : Fd} (h : FdI R M root ps pc 6 f) (l : List Int) (hl : Rising l) (hm : ∀ z ∈ l, z ∈ f.pg) : l.length ≤ 2 := by
  refine rising_two hl ((pc % 4294967296 : Nat) / 64 : Nat) ((((pc % 4294967296 : Nat) / 64 + 1) % 67108864 : Nat)) fun z hz => ?_
  obtain ⟨k, hk, rfl⟩ := h.pg z (hm z hz)
  omega
/-- What holds of a block under way, for its ends. -/
structure GI (R : RamAt) (M : List Int) (root ps pc : Nat) (b : Bl) (pg : List Int) : Prop where
  la : b.at_.length = b.ins.length
  h0 : b.at_[0]? = some (pc : Int) ∨ (b.ins = [] ∧ b.next = pc)
  nx : ∀ l, b.at_.getLast? = some l → ((b.next : Int) - l) % 4294967296 ≤ 6
  df : ∀ j x y, b.at_[j]? = some x → b.at_[j + 1]? = some y → (y - x) % 4294967296 ≤ 6
  pe : b.ins = [] → pg = []
  en : b.en = 1
  f1 : b.ins ≠ [] → b.fr ≠ []
  ff : ∀ x ∈ b.fr, ∃ p ∈ pg, x = phi R M root ps p
  t0 : ps / 4 % 2 = 0 → b.tb = []
  t1 : ps / 4 % 2 ≠ 0 → b.ins ≠ [] → b.tb ≠ []
  p2 : pg.length ≤ 2
  pr : Rising pg
  fr : Rising b.fr
  ab : ∀ x ∈ b.at_, 0 ≤ x ∧ x < 4294967296
  nb : b.next < 4294967296
  ob : ∀ i ∈ b.ins, 0 ≤ i.op ∧ i.op < 256
/-- What ScanEnds asks of a block. -/
structure EndsB (ps pc : Nat) (most : Int) (b : Bl) : Prop where
  n1 : 1 ≤ b.ins.length
  n2 : b.ins.length ≤ 32
  nm : (b.ins.length : Int) ≤ most ∨ b.ins.length ≤ 1
  la : b.at_.length = b.ins.length
  h0 : b.at_[0]? = some (pc : Int)
  df : ∀ j x y, b.at_[j]? = some x → b.at_[j + 1]? = some y → (y - x) % 4294967296 ≤ 6
  ab : ∀ x ∈ b.at_, 0 ≤ x ∧ x < 4294967296
  ne : ∀ j i, b.ins[j]? = some i → (3 ≤ (kindM i.op).1 ↔ j + 1 = b.ins.length ∧ b.en ≠ 1)
  f1 : 1 ≤ b.fr.length
  f2 : b.fr.length ≤ 2
  tb : ps / 4 % 2 = 0 ↔ b.tb = []
  ob : ∀ i ∈ b.ins, 0 ≤ i.op ∧ i.op < 256
theorem GI.f2 {R : RamAt} {M : List Int} {root ps pc : Nat} {b : Bl} {pg : List Int} (h : GI R M root ps pc b pg) : b.fr.length ≤ 2 := by
  have hp := h.p2
  have hf := h.ff
  have hr := h.fr
  clear h
  obtain ⟨x, y, hxy⟩ : ∃ x y, ∀ p ∈ pg, p = x ∨ p = y := by
    cases pg with
    | nil => exact ⟨0, 0, fun p hp => by simp at hp⟩
    | cons a r =>
      cases r with
      | nil => exact ⟨a, a, fun p hp => by simp at hp; exact .inl hp⟩
      | cons c r =>
        have : r = [] := List.length_eq_zero_iff.1 (by simp only [List.length_cons] at hp; omega)
        subst this
        exact ⟨a, c, fun p hp => by simpa using hp⟩
  refine rising_two hr (phi R M root ps x) (phi R M root ps y) fun z hz => ?_
  obtain ⟨p, hp, e⟩ := hf z hz
  rcases hxy p hp with h | h
  · exact .inl (by rw [e, h])
  · exact .inr (by rw [e, h])
/-- A whole block without an end of its own. -/
theorem GI.stop {R : RamAt} {M : List Int} {root ps pc : Nat} {b : Bl} {pg : List Int} {most : Int} (h : GI R M root ps pc b pg) (hne : ∀ i ∈ b.ins, ¬ 3 ≤ (kindM i.op).1) (hn : b.ins ≠ []) (hl : b.ins.length ≤ limN most) : EndsB ps pc most b := by
  have hp : 0 < b.ins.length := List.length_pos_iff.2 hn
  have h3 := limN_le most
  have hfp : 0 < b.fr.length := List.length_pos_iff.2 (h.f1 hn)
  refine ⟨by omega, by omega, ?_, h.la, ?_, h.df, h.ab, fun j i hi => ⟨fun h3 => absurd h3 (hne i (List.mem_of_getElem? hi)), fun h3 => absurd h.en h3.2⟩, by omega, h.f2, ⟨h.t0, fun e => ?_⟩, h.ob⟩
  · unfold limN at hl; omega
  · rcases h.h0 with h0 | h0
    · exact h0
    · exact absurd h0.1 hn
  · rcases Nat.eq_zero_or_pos (ps / 4 % 2) with h4 | h4
    · exact h4
    · exact absurd e (h.t1 (by omega) hn)
/-- One instruction more, of a fetch that went well. -/
theorem GI.lay {R : RamAt} {M : List Int} {root ps pc : Nat} {b : Bl} {pg : List Int} (h : GI R M root ps pc b pg) {z : Fetched} (hz : FetchI R M root ps b.next z) (ho : FetchOk z) (hc : z.c = 0) (hp : (z.f.pg.foldl putL pg).length ≤ 2) :
    GI R M root ps pc (layL b z.i z.sz z.f) (z.f.pg.foldl putL pg) := by
  have hb : (layL b z.i z.sz z.f).ins = b.ins ++ [z.i] := rfl
  have ha : (layL b z.i z.sz z.f).at_ = b.at_ ++ [(b.next : Int)] := rfl
  have hx : (layL b z.i z.sz z.f).next = (b.next + z.sz.toNat) % 4294967296 := rfl
  have s0 := ho.s0
  have s6 := ho.s6
  have hnb := h.nb
  refine ⟨by rw [hb, ha]; simp [h.la], ?_, fun l hl => ?_, fun j x y hx hy => ?_, fun e => by rw [hb] at e; simp at e, h.en, fun _ e => ?_, fun x hx => ?_, fun h4 => ?_, fun h4 _ e => ?_, hp, rising_fold _ _ h.pr, rising_fold _ _ h.fr, fun x hx => ?_, by rw [hx]; omega, fun i hi => ?_⟩
  · left
    rw [ha]
    rcases h.h0 with h0 | ⟨h0, h1⟩
    · rw [List.getElem?_append_left (by
        rcases Nat.lt_or_ge 0 b.at_.length with h | h
        · exact h
        · rw [List.getElem?_eq_none h] at h0; cases h0)]
      exact h0
    · have : b.at_ = [] := List.length_eq_zero_iff.1 (by rw [h.la, h0]; rfl)
      rw [this, h1]; rfl
  · rw [ha, List.getLast?_append] at hl
    simp at hl
    subst hl
    rw [hx]
    omega
  · rw [ha] at hx hy
    rcases Nat.lt_or_ge (j + 1) b.at_.length with h1 | h1
    · rw [List.getElem?_append_left (by omega)] at hx hy
      exact h.df j x y hx hy
    · rw [List.getElem?_append_right (by omega)] at hy
      have hj : j + 1 = b.at_.length := by
        rcases Nat.lt_or_ge (j + 1 - b.at_.length) 1 with h2 | h2
        · omega
        · rw [List.getElem?_eq_none (by simpa using h2)] at hy; cases hy
      rw [List.getElem?_append_left (by omega)] at hx
      rw [hj, Nat.sub_self] at hy
      simp at hy
      subst hy
      refine h.nx x ?_
      rw [List.getLast?_eq_getElem?, show b.at_.length - 1 = j by omega]
      exact hx
  · have h1 := hz.nf hc
    obtain ⟨x, l, hl⟩ := List.exists_cons_of_ne_nil h1
    have : x ∈ z.f.fr.foldl putL b.fr := (mem_fold _ _).2 (.inl (by rw [hl]; simp))
    rw [show z.f.fr.foldl putL b.fr = [] from e] at this
    simp at this
  · rcases (mem_fold _ _).1 hx with h1 | h1
    · obtain ⟨p, hp, e⟩ := hz.i.fr x h1
      exact ⟨p, (mem_fold _ _).2 (.inl hp), e⟩
    · obtain ⟨p, hp, e⟩ := h.ff x h1
      exact ⟨p, (mem_fold _ _).2 (.inr hp), e⟩
  · show z.f.tb.foldl putL b.tb = []
    rw [hz.i.tb h4, h.t0 h4]; rfl
  · have h1 := hz.nt hc h4
    obtain ⟨x, l, hl⟩ := List.exists_cons_of_ne_nil h1
    have : x ∈ z.f.tb.foldl putL b.tb := (mem_fold _ _).2 (.inl (by rw [hl]; simp))
    rw [show z.f.tb.foldl putL b.tb = [] from e] at this
    simp at this
  · rw [ha] at hx
    rcases List.mem_append.1 hx with h1 | h1
    · exact h.ab x h1
    · simp at h1; subst h1; omega
  · rw [hb] at hi
    rcases List.mem_append.1 hi with h1 | h1
    · exact h.ob i h1
    · simp at h1; subst h1; exact ⟨ho.o0, ho.o1⟩
theorem endB_same (b : Bl) (i : In) : (endB b i).ins = b.ins ∧ (endB b i).at_ = b.at_ ∧ (endB b i).fr = b.fr ∧ (endB b i).tb = b.tb ∧ (endB b i).en ≠ 1 := by
  unfold endB Bl.fin
  split
  · exact ⟨rfl, rfl, rfl, rfl, by simp⟩
  · split
    · exact ⟨rfl, rfl, rfl, rfl, by simp⟩
    · exact ⟨rfl, rfl, rfl, rfl, by simp⟩
theorem GI.ends {R : RamAt} {M : List Int} {root ps pc : Nat} {b b' : Bl} {pg : List Int} {most : Int} {old : List In} {i : In} (h : GI R M root ps pc b pg) (hi : b.ins = old ++ [i]) (hold : ∀ j ∈ old, ¬ 3 ≤ (kindM j.op).1) (hk : 3 ≤ (kindM i.op).1) (hl : b.ins.length ≤ limN most)
    (e1 : b'.ins = b.ins) (e2 : b'.at_ = b.at_) (e3 : b'.fr = b.fr) (e4 : b'.tb = b.tb) (e5 : b'.en ≠ 1) : EndsB ps pc most b' := by
  have hn : b.ins ≠ [] := by rw [hi]; simp
  have hp : 0 < b.ins.length := List.length_pos_iff.2 hn
  have h3 := limN_le most
  have hfp : 0 < b.fr.length := List.length_pos_iff.2 (h.f1 hn)
  refine ⟨by rw [e1]; omega, by rw [e1]; omega, ?_, by rw [e1, e2]; exact h.la, ?_, by rw [e2]; exact h.df, by rw [e2]; exact h.ab, fun j x hx => ?_, by rw [e3]; omega, by rw [e3]; exact h.f2, ⟨fun h4 => by rw [e4]; exact h.t0 h4, fun e => ?_⟩, by rw [e1]; exact h.ob⟩
  · rw [e1]; unfold limN at hl; omega
  · rw [e2]
    rcases h.h0 with h0 | h0
    · exact h0
    · exact absurd h0.1 hn
  · rw [e1, hi] at hx
    rw [e1, hi, List.length_append, List.length_cons, List.length_nil]
    rcases Nat.lt_or_ge j old.length with h1 | h1
    · rw [List.getElem?_append_left h1] at hx
      exact ⟨fun h3 => absurd h3 (hold x (List.mem_of_getElem? hx)), fun h3 => by omega⟩
    · rw [List.getElem?_append_right h1] at hx
      have hj : j - old.length = 0 := by
        rcases Nat.eq_zero_or_pos (j - old.length) with h2 | h2
        · exact h2
        · rw [List.getElem?_eq_none (by simp; omega)] at hx; cases hx
      rw [hj] at hx
      simp at hx
      subst hx
      exact ⟨fun _ => ⟨by omega, e5⟩, fun _ => hk⟩
  · rcases Nat.eq_zero_or_pos (ps / 4 % 2) with h4 | h4
    · exact h4
    · rw [e4] at e
      exact absurd e (h.t1 (by omega) hn)
theorem goL_ends {w : World} {R : RamAt} {M : List Int} (H : IsRam w R M) {root ps pc : Nat} {most : Int} : ∀ (n : Nat) (b : Bl) (pg : List Int), GI R M root ps pc b pg → (∀ i ∈ b.ins, ¬ 3 ≤ (kindM i.op).1) → b.ins.length + n = limN most →
    ((goL R M root ps n b pg).c ≠ 0 → (goL R M root ps n b pg).b = bl0) ∧ ((goL R M root ps n b pg).c = 0 → EndsB ps pc most (goL R M root ps n b pg).b)
  | 0, b, pg, h, hne, hl => by
    simp only [goL]
    refine ⟨fun h => absurd rfl h, fun _ => h.stop hne (fun e => ?_) (by omega)⟩
    rw [e] at hl
    unfold limN at hl
    simp at hl
    omega
  | n + 1, b, pg, h, hne, hl => by
    have hz := fetchL_inv R M root ps b.next
    have ho := fetchL_ok H root ps b.next
    simp only [goL]
    generalize fetchL R M root ps b.next = z at *
    split
    · rename_i hA
      exact ⟨fun _ => rfl, fun e => absurd e hA.1⟩
    · rename_i hA
      split
      · rename_i hB
        refine ⟨fun h => absurd rfl h, fun _ => h.stop hne (fun e => ?_) (by omega)⟩
        rcases hB with hB | hB
        · exact hA ⟨hB, by rw [e]; rfl⟩
        · rw [h.pe e] at hB
          have := pages_two hz.i (z.f.pg.foldl putL []) (rising_fold _ _ List.Pairwise.nil) (fun y hy => by
            rcases (mem_fold _ _).1 hy with h | h
            · exact h
            · simp at h)
          omega
      · rename_i hB
        have hc : z.c = 0 := by
          rcases Int.decEq z.c 0 with h | h
          · exact absurd (.inl h) hB
          · exact h
        have hG := h.lay hz ho hc (by omega)
        split
        · rename_i hk
          obtain ⟨e1, e2, e3, e4, e5⟩ := endB_same (layL b z.i z.sz z.f) z.i
          exact ⟨fun h => absurd rfl h, fun _ => hG.ends (old := b.ins) (i := z.i) rfl hne hk (by simp only [layL, List.length_append, List.length_cons, List.length_nil]; omega) e1 e2 e3 e4 e5⟩
        · rename_i hk
          refine goL_ends H n _ _ hG (fun i hi => ?_) (by simp only [layL, List.length_append, List.length_cons, List.length_nil]; omega)
          rcases List.mem_append.1 hi with h1 | h1
          · exact hne i h1
          · simp at h1; subst h1; exact hk
theorem scanL_ends {w : World} {R : RamAt} {M : List Int} (H : IsRam w R M) (root ps pc : Nat) (most : Int) (hp : pc < 4294967296) : ((scanL R M root ps pc most).c ≠ 0 → (scanL R M root ps pc most).b = bl0) ∧ ((scanL R M root ps pc most).c = 0 → EndsB ps pc most (scanL R M root ps pc most).b) :=
  goL_ends H (limN most) _ _ ⟨rfl, .inr ⟨rfl, rfl⟩, fun l hl => by simp at hl, fun j x y hx => by simp at hx, fun _ => rfl, rfl, fun h => absurd rfl h, fun x hx => by simp at hx, fun _ => rfl, fun _ h => absurd rfl h, by simp, List.Pairwise.nil, List.Pairwise.nil, fun x hx => by simp at hx, hp, fun i hi => by simp at hi⟩ (fun i hi => by simp at hi) (by simp)
end Go.Proofs.Ytjkjnomhggmplaa
