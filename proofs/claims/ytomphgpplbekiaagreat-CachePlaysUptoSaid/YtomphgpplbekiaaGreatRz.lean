/- Regions that draw their order, with a chain of operations whose values are not known ahead (a call that yields a row of its own), and beside it one operation 'alloc' that may come at any time. No program is named here. -/
import Derived.Test.YtomphgpplbekiaaGreatRa
namespace Go.Proofs.YtomphgpplbekiaaGreat
open Go.RowKit
section
variable {P : Program} {ops : Array Oper} {Q : Exit → Act → World → Prop} {md : Region.Mode} {S : World → Prop}
theorem stepR_mono {R R' : Value → World → Prop} (h : ∀ x u, R x u → R' x u) : ∀ {r : Result Next}, stepR P R r → stepR P R' r
  | .ok (.value v) w', hr => h _ _ hr
  | .ok .skip w', hr => h _ _ hr
  | .ok (.enter f args) w', hr => Calls.mono hr fun e w'' ⟨v, he, hR⟩ => ⟨v, he, h _ _ hR⟩
  | .halt x w', hr => by simp only [stepR] at hr
theorem OpR.mono {o : Oper} {a : Act} {u : World} {R R' : Value → World → Prop} (h : ∀ x u, R x u → R' x u) (hr : OpR P ops o a u R) : OpR P ops o a u R' :=
  hr.elim (fun k => .inl ⟨k.1, stepR_mono h k.2⟩) (fun k => .inr ⟨k.1, h _ _ k.2⟩)
/-- The chain, the one beside it left out. -/
def chainP (P : Program) (ops : Array Oper) (S : World → Prop) (K : Act → (World → Prop) → Prop) : List Oper → Act → (World → Prop) → Prop
  | [], a, Ψ => K a Ψ
  | o :: l, a, Ψ => ∃ Φ : Value → World → Prop, (∀ x u u', Φ x u → Same u u' → Φ x u') ∧ (∀ u, S u → Ψ u → OpR P ops o a u (fun x u' => Same u u' ∧ Φ x u')) ∧ ∀ x, (∃ u, S u ∧ Φ x u) → chainP P ops S K l (a.put o.dst x) (Φ x)
def headG (md : Region.Mode) (ops : Array Oper) (fin : Array Bool → Bool) : List Nat → Array Bool → Bool
  | [], listed => fin listed
  | i :: is, listed => (Region.ready md ops listed).contains i && Region.free md ops listed i && headG md ops fin is (listed.setIfInBounds i true)
def chE (md : Region.Mode) (ops : Array Oper) (vs R : List Nat) : List Nat → Array Bool → Bool
  | [], listed => headG md ops (tailE md ops R) vs listed
  | t :: l, listed => decide (Region.ready md ops listed = [t]) && chE md ops vs R l (listed.setIfInBounds t true)
def insE (md : Region.Mode) (ops : Array Oper) (z : Nat) (vs R : List Nat) : List Nat → Array Bool → Bool
  | [], listed => headG md ops (tailE md ops (z :: R)) vs listed
  | t :: l, listed => (Region.ready md ops listed).all (fun i => decide (i = t) || decide (i = z)) && (Region.ready md ops listed).contains t && chE md ops vs R (t :: l) (listed.setIfInBounds z true) && insE md ops z vs R l (listed.setIfInBounds t true)
def ptrV (b : Nat) : Value := .pointer (some ⟨b, 0, none⟩)
theorem seqV_mono {K K' : Act → Prop} (hK : ∀ a, K a → K' a) : ∀ (l : List Oper) (a : Act), seqV P ops S K l a → seqV P ops S K' l a
  | [], a, h => hK a h
  | _ :: l, _, ⟨v, h1, h2⟩ => ⟨v, h1, seqV_mono hK l _ h2⟩
/-- The one beside them taken first. -/
theorem seqV_put {oz : Oper} {b : Nat} {K K' : Act → Prop} (hK : ∀ a, K a → K' (a.put oz.dst (ptrV b))) : ∀ (l : List Oper) (a : Act), (∀ o ∈ l, oz.apart ops o = true ∧ ∀ cs b, o.op ≠ .select cs b) → seqV P ops S K l a → seqV P ops S K' l (a.put oz.dst (ptrV b))
  | [], a, _, h => hK a h
  | o :: l, a, hp, ⟨v, h1, h2⟩ => by
    obtain ⟨p1, p2, p3⟩ := Oper.apart_spec (hp o (by simp)).1
    refine ⟨v, fun u hu => (h1 u hu).of_same (execOp_put o (fun cs b => (hp o (by simp)).2 cs b) a oz.dst (ptrV b) p1) (wanted_put o a oz.dst (ptrV b) p1), ?_⟩
    rw [Act.put_comm a (ptrV b) v p2]
    exact seqV_put hK l _ (fun o ho => hp o (by simp [ho])) h2
theorem chainP_put {oz : Oper} {b : Nat} {Z : Array Value} {t : TypeId} {K K' : Act → (World → Prop) → Prop}
    (hK : ∀ a Ψ, K a Ψ → K' (a.put oz.dst (ptrV b)) (fun u => Ψ u ∧ u.heap[b]? = some (.cells Z t (0, 0)))) (hm : ∀ a (Ψ Ψ' : World → Prop), (∀ u, Ψ' u → Ψ u) → K' a Ψ → K' a Ψ') :
    ∀ (l : List Oper) (a : Act) (Ψ : World → Prop), (∀ o ∈ l, oz.apart ops o = true ∧ ∀ cs b, o.op ≠ .select cs b) → chainP P ops S K l a Ψ → chainP P ops S K' l (a.put oz.dst (ptrV b)) (fun u => Ψ u ∧ u.heap[b]? = some (.cells Z t (0, 0)))
  | [], a, Ψ, _, h => hK a Ψ h
  | o :: l, a, Ψ, hp, h => by
    obtain ⟨Φ, h1, h2, h3⟩ := h
    obtain ⟨p1, p2, p3⟩ := Oper.apart_spec (hp o (by simp)).1
    refine ⟨fun x u => Φ x u ∧ u.heap[b]? = some (.cells Z t (0, 0)), fun x u u' hx hk => ⟨h1 x u u' hx.1 hk, hk.get hx.2 id⟩, fun u hu hpu => ?_, fun x hx => ?_⟩
    · have h4 := (h2 u hu hpu.1).of_same (execOp_put o (fun cs b => (hp o (by simp)).2 cs b) a oz.dst (ptrV b) p1) (wanted_put o a oz.dst (ptrV b) p1)
      exact h4.mono fun x u' hx => ⟨hx.1, hx.2, hx.1.get hpu.2 id⟩
    · rw [Act.put_comm a (ptrV b) x p2]
      obtain ⟨u, hu, hx⟩ := hx
      exact chainP_put hK hm l _ _ (fun o ho => hp o (by simp [ho])) (h3 x ⟨u, hu, hx.1⟩)
theorem chainP_mono {K : Act → (World → Prop) → Prop} {Ψ Ψ' : World → Prop} (hp : ∀ u, Ψ' u → Ψ u) (hm : ∀ a (Ψ Ψ' : World → Prop), (∀ u, Ψ' u → Ψ u) → K a Ψ → K a Ψ') : ∀ {l : List Oper} {a : Act}, chainP P ops S K l a Ψ → chainP P ops S K l a Ψ'
  | [], a, h => hm a Ψ Ψ' hp h
  | _ :: _, _, ⟨Φ, h1, h2, h3⟩ => ⟨Φ, h1, fun u hu hpu => h2 u hu (hp u hpu), h3⟩
theorem opsOf_append (l : List Oper) (a b : List Nat) : opsOf l (a ++ b) = opsOf l a ++ opsOf l b := by simp [opsOf]
theorem opsOf_len {l : List Oper} : ∀ (is : List Nat), (∀ t ∈ is, t < l.length) → (opsOf l is).length = is.length
  | [], _ => rfl
  | i :: is, h => by
    have hi : i < l.length := h i (by simp)
    rw [opsOf_cons l i is l[i] (List.getElem?_eq_getElem hi)]
    simp [opsOf_len is (fun t ht => h t (by simp [ht]))]
theorem opsOf_mem {l : List Oper} {is : List Nat} {o : Oper} (h : o ∈ opsOf l is) : ∃ t ∈ is, l[t]? = some o := by
  simpa [opsOf] using h
theorem RA_lexG {l : List Oper} {hd ea : List Nat} (hsel : Region.noSelect l.toArray = true) (hl2 : lateE md l.toArray hd ea = true) (fin : Array Bool → Bool) (m : Nat) (K : Act → Prop) (Ψ : World → Prop)
    (hK : ∀ listed a, fin listed = true → K a → RA P md l.toArray Q S (fun t => !ea.contains t) m listed a Ψ) :
    ∀ (is : List Nat) (listed : Array Bool) (a : Act), (∀ i ∈ is, i ∈ hd ∧ i < l.length) → headG md l.toArray fin is listed = true → seqV P l.toArray S K (opsOf l is) a →
    RA P md l.toArray Q S (fun t => !ea.contains t) (is.length + m) listed a Ψ
  | [], listed, a, _, hB, h => by
    simpa using hK listed a hB h
  | i :: is, listed, a, hi, hB, h => by
    obtain ⟨hin, hil⟩ := hi i (by simp)
    have h0 : l.toArray[i]? = some l[i] := by simp [hil]
    rw [opsOf_cons l i is l[i] (List.getElem?_eq_getElem hil)] at h
    simp only [headG, Bool.and_eq_true] at hB
    obtain ⟨⟨hr, hf⟩, hB'⟩ := hB
    have hr' : i ∈ Region.ready md l.toArray listed := by simpa using hr
    obtain ⟨v, hy, hK'⟩ := h
    rw [show (i :: is).length + m = (is.length + m) + 1 by simp only [List.length_cons]; omega]
    exact RA_first h0 (Region.noSelect_spec hsel) hl2 hin (is.length + m) listed a _ (Region.free_spec h0 hf) hr' hy
      (RA_lexG hsel hl2 fin m K Ψ hK is _ _ (fun j hj => hi j (by simp [hj])) hB' hK')
theorem RA_ch {l : List Oper} {ea vs : List Nat} (hsel : Region.noSelect l.toArray = true) (hS : ∀ u u', S u → Same u u' → S u') (hlv : lateE md l.toArray vs ea = true) (hv : ∀ t ∈ vs, t < l.length) (R : List Nat) (c : Nat) (hR : ∀ t ∈ R, t < l.length) (hL : ∀ t ∈ R.drop c, (!ea.contains t) = true) :
    ∀ (ch : List Nat) (listed : Array Bool) (a : Act) (Ψ : World → Prop), chE md l.toArray vs R ch listed = true → (∀ t ∈ ch, t < l.length) →
      chainP P l.toArray S (fun a Ψ => seqV P l.toArray S (fun a' => tailR P l.toArray Q S c (opsOf l R) a' Ψ) (opsOf l vs) a) (opsOf l ch) a Ψ → RA P md l.toArray Q S (fun t => !ea.contains t) (ch.length + (vs.length + R.length)) listed a Ψ
  | [], listed, a, Ψ, hB, _, h => by
    have := RA_lexG (P := P) (Q := Q) (S := S) hsel hlv (tailE md l.toArray R) R.length _ Ψ (fun listed a' hi hk => RA_tail (L := fun t => !ea.contains t) R c listed a' _ hi hL hR hk) vs listed a (fun i hi => ⟨hi, hv i hi⟩) hB h
    simpa using this
  | t :: ch, listed, a, Ψ, hB, hlt, h => by
    have ht : t < l.length := hlt t (by simp)
    have h0 : l.toArray[t]? = some l[t] := by simp [ht]
    rw [opsOf_cons l t ch l[t] (List.getElem?_eq_getElem ht)] at h
    simp only [chE, Bool.and_eq_true, decide_eq_true_eq] at hB
    rw [show (t :: ch).length + (vs.length + R.length) = (ch.length + (vs.length + R.length)) + 1 by simp only [List.length_cons]; omega]
    obtain ⟨Φ, k1, k2, k3⟩ := h
    refine ⟨fun hr => (by rw [hB.1] at hr; cases hr), fun i hi o ho => ?_⟩
    rw [hB.1] at hi
    obtain rfl : i = t := by simpa using hi
    obtain rfl : o = l[i] := Option.some.inj (ho.symm.trans h0)
    exact .inr (.inl ⟨Φ, k1, fun u hu hp => (k2 u hu hp).mono fun x u' hx => ⟨hS _ _ hu hx.1, hx.2⟩, fun x hx => RA_ch hsel hS hlv hv R c hR hL ch _ _ _ hB.2 (fun s hs => hlt s (by simp [hs])) (k3 x hx)⟩)
theorem RA_ins {l : List Oper} {ea vs : List Nat} (hsel : Region.noSelect l.toArray = true) (hS : ∀ u u', S u → Same u u' → S u') (N : Nat) (hN : ∀ u, S u → N ≤ u.heap.size) {oz : Oper} {z : Nat} (hoz : l[z]? = some oz) {Z : Array Value} {ty : TypeId} (hgz : oz.guard = none)
    (hz : ∀ ρ u, S u → (execOp ρ oz).run P u = .ok (.value (ptrV u.heap.size)) (u.alloc (.cells Z ty))) (hlv : lateE md l.toArray vs ea = true) (hv : ∀ t ∈ vs, t < l.length) (hva : ∀ o ∈ opsOf l vs, oz.apart l.toArray o = true) (R : List Nat) (c : Nat) (hR : ∀ t ∈ R, t < l.length) (hL : ∀ t ∈ R.drop c, (!ea.contains t) = true) :
    ∀ (ch : List Nat) (listed : Array Bool) (a : Act) (Ψ : World → Prop), (∀ u u', Ψ u → Same u u' → Ψ u') → insE md l.toArray z vs R ch listed = true → (∀ t ∈ ch, t < l.length) → (∀ o ∈ opsOf l ch, oz.apart l.toArray o = true) →
      chainP P l.toArray S (fun a Ψ => seqV P l.toArray S (fun a' => ∀ b, N ≤ b → tailR P l.toArray Q S c (opsOf l R) (a'.put oz.dst (ptrV b)) (fun u => Ψ u ∧ u.heap[b]? = some (.cells Z ty (0, 0)))) (opsOf l vs) a) (opsOf l ch) a Ψ → RA P md l.toArray Q S (fun t => !ea.contains t) (ch.length + (vs.length + (R.length + 1))) listed a Ψ := by
  have hzl : z < l.length := (List.getElem?_eq_some_iff.1 hoz).1
  have hz0 : l.toArray[z]? = some oz := by simpa using hoz
  have zstep : ∀ (a : Act) (Ψ : World → Prop), (∀ u u', Ψ u → Same u u' → Ψ u') → ∀ u, S u → Ψ u → OpR P l.toArray oz a u (fun x u' => S u' ∧ ∃ b, x = ptrV b ∧ N ≤ b ∧ Ψ u' ∧ u'.heap[b]? = some (.cells Z ty (0, 0))) := fun a Ψ hΨ u hu hp => by
    refine .inl ⟨by simp [Region.wanted, hgz], ?_⟩
    rw [hz a.eval u hu]
    have hk : Same u (u.alloc (.cells Z ty)) := (Keeps.refl _ _).alloc _
    exact ⟨hS _ _ hu hk, _, rfl, hN u hu, hΨ _ _ hp hk, block_new _ _⟩
  have zst : ∀ (Ψ : World → Prop), (∀ u u', Ψ u → Same u u' → Ψ u') → ∀ (x : Value) u u', (∃ b, x = ptrV b ∧ N ≤ b ∧ Ψ u ∧ u.heap[b]? = some (.cells Z ty (0, 0))) → Same u u' → (∃ b, x = ptrV b ∧ N ≤ b ∧ Ψ u' ∧ u'.heap[b]? = some (.cells Z ty (0, 0))) := fun Ψ hΨ x u u' hx hk => by
    obtain ⟨b, e, hb, hp, hh⟩ := hx
    exact ⟨b, e, hb, hΨ _ _ hp hk, hk.get hh id⟩
  have zout : ∀ (Ψ : World → Prop) (b : Nat) u, (∃ b', ptrV b = ptrV b' ∧ N ≤ b' ∧ Ψ u ∧ u.heap[b']? = some (.cells Z ty (0, 0))) → Ψ u ∧ u.heap[b]? = some (.cells Z ty (0, 0)) := fun Ψ b u hu => by
    obtain ⟨b', e, _, hp, hh⟩ := hu
    have : b = b' := by simp only [ptrV, Value.pointer.injEq, Option.some.injEq, Addr.mk.injEq] at e; exact e.1
    subst this
    exact ⟨hp, hh⟩
  have hnos : ∀ is : List Nat, ∀ o ∈ opsOf l is, ∀ cs bb, o.op ≠ .select cs bb := fun is o ho cs bb => by
    obtain ⟨s, hs, hos⟩ := opsOf_mem ho
    exact Region.noSelect_spec hsel s o cs bb (by simpa using hos)
  intro ch
  induction ch with
  | nil =>
    intro listed a Ψ hΨ hB _ _ h
    simp only [insE] at hB
    have h' : seqV P l.toArray S (fun a' => tailR P l.toArray Q S (c + 1) (opsOf l (z :: R)) a' Ψ) (opsOf l vs) a := seqV_mono (fun a' hk => by
      rw [opsOf_cons l z R oz hoz]
      refine ⟨_, zst Ψ hΨ, zstep a' Ψ hΨ, fun x hx => ?_⟩
      obtain ⟨u, _, b, rfl, hb, _⟩ := hx
      exact tailR_mono (zout Ψ b) (hk b hb)) _ _ h
    have hd : ∀ t ∈ (z :: R).drop (c + 1), (!ea.contains t) = true := fun t ht => hL t (by simpa using ht)
    have := RA_lexG (P := P) (Q := Q) (S := S) hsel hlv (tailE md l.toArray (z :: R)) (z :: R).length _ Ψ (fun listed a' hi hk => RA_tail (L := fun t => !ea.contains t) (z :: R) (c + 1) listed a' _ hi hd (fun t ht => by
      rcases List.mem_cons.1 ht with rfl | ht
      · exact hzl
      · exact hR t ht) hk) vs listed a (fun i hi => ⟨hi, hv i hi⟩) hB h'
    simpa using this
  | cons t ch ih =>
    intro listed a Ψ hΨ hB hlt hap h
    have ht : t < l.length := hlt t (by simp)
    have h0 : l.toArray[t]? = some l[t] := by simp [ht]
    have hch := h
    rw [opsOf_cons l t ch l[t] (List.getElem?_eq_getElem ht)] at h
    simp only [insE, Bool.and_eq_true] at hB
    obtain ⟨⟨⟨h1, h2⟩, h3⟩, h4⟩ := hB
    rw [show (t :: ch).length + (vs.length + (R.length + 1)) = (ch.length + (vs.length + (R.length + 1))) + 1 by simp only [List.length_cons]; omega]
    obtain ⟨Φ, k1, k2, k3⟩ := h
    refine ⟨fun hr => (by rw [hr] at h2; cases h2), fun i hi o ho => ?_⟩
    have hiz := List.all_eq_true.1 h1 i hi
    simp only [Bool.or_eq_true, decide_eq_true_eq] at hiz
    by_cases hit : i = t
    · subst hit
      obtain rfl : o = l[i] := Option.some.inj (ho.symm.trans h0)
      refine .inr (.inl ⟨Φ, k1, fun u hu hp => (k2 u hu hp).mono fun x u' hx => ⟨hS _ _ hu hx.1, hx.2⟩, fun x hx => ?_⟩)
      exact ih _ _ _ (k1 x) h4 (fun s hs => hlt s (by simp [hs])) (fun o ho => hap o (by rw [opsOf_cons l i ch l[i] (List.getElem?_eq_getElem ht)]; simp [ho])) (k3 x hx)
    · obtain rfl : i = z := hiz.resolve_left hit
      obtain rfl : o = oz := Option.some.inj (ho.symm.trans hz0)
      refine .inr (.inl ⟨_, zst Ψ hΨ, zstep a Ψ hΨ, fun x hx => ?_⟩)
      obtain ⟨u, _, b, rfl, hb, _⟩ := hx
      rw [show ch.length + (vs.length + (R.length + 1)) = (t :: ch).length + (vs.length + R.length) by simp only [List.length_cons]; omega]
      refine RA_ch hsel hS hlv hv R c hR hL (t :: ch) _ _ _ h3 hlt ?_
      have hx := chainP_put (P := P) (S := S) (ops := l.toArray) (oz := o) (b := b) (Z := Z) (t := ty) (K' := fun a Ψ => seqV P l.toArray S (fun a' => tailR P l.toArray Q S c (opsOf l R) a' Ψ) (opsOf l vs) a) (fun a Ψ hk => seqV_put (fun a' hk => hk b hb) _ _ (fun o' ho' => ⟨hva o' ho', hnos _ o' ho'⟩) hk)
        (fun a Ψ Ψ' hm hk => seqV_mono (fun a' hk => tailR_mono hm hk) _ _ hk) (opsOf l (t :: ch)) a Ψ (fun o' ho' => ⟨hap o' ho', hnos _ o' ho'⟩) hch
      exact chainP_mono (P := P) (ops := l.toArray) (S := S) (K := fun a Ψ => seqV P l.toArray S (fun a' => tailR P l.toArray Q S c (opsOf l R) a' Ψ) (opsOf l vs) a) (zout Ψ b) (fun a Ψ Ψ' hm hk => seqV_mono (fun a' hk => tailR_mono hm hk) _ _ hk) hx
/-- As 'wp_region_ra', with something that holds till the first of the others has come. -/
theorem wp_region_rp {id : Nat} {a : Act} {w : World} {l : List Oper} (is tl : List Nat) (c : Nat) (S Ψ : World → Prop) (hm : P.follows .mixedOrders = true) (hB : evpB .any l.toArray is tl c = true)
    (hS : ∀ u u', S u → Same u u' → S u') (hS0 : S w.drew) (hΨ : ∀ u u', Ψ u → Same u u' → Ψ u') (hΨ0 : Ψ w.drew)
    (h : seqV P l.toArray S (fun a' => tailR P l.toArray Q S c (opsOf l tl) a' Ψ) (opsOf l is) a) : (Code.region id l.toArray true).wp P Q a w := by
  simp only [evpB, Bool.and_eq_true, decide_eq_true_eq] at hB
  obtain ⟨⟨⟨⟨⟨⟨hsel, hl⟩, hh⟩, ht⟩, htl⟩, his⟩, hsz⟩ := hB
  have hG : ∀ (is : List Nat) (listed : Array Bool), headE .any l.toArray tl is listed = true → headG .any l.toArray (tailE .any l.toArray tl) is listed = true := by
    intro is
    induction is with
    | nil => exact fun _ h => h
    | cons i is ih =>
      intro listed h
      simp only [headE, headG, Bool.and_eq_true] at h ⊢
      exact ⟨h.1, ih _ h.2⟩
  have hx := RA_lexG (P := P) (Q := Q) (S := S) hsel hl (tailE .any l.toArray tl) tl.length _ Ψ
    (fun listed a' hi hk => RA_tail (L := fun t => !(is ++ tl.take c).contains t) tl c listed a' _ hi (fun t ht' => by have := List.all_eq_true.1 ht t ht'; simpa using this) (fun t ht' => by have := List.all_eq_true.1 htl t ht'; simpa using this) hk) is (Array.replicate l.toArray.size false) a
    (fun i hi => ⟨hi, by have := List.all_eq_true.1 his i hi; simpa using this⟩) (hG is _ hh) h
  rw [hsz] at hx
  exact wp_region_any hm (wpAny_of_RA hS _ _ _ _ hΨ hx w.drew hS0 hΨ0)
def evzB (md : Region.Mode) (ops : Array Oper) (is ch : List Nat) (z : Nat) (vs R : List Nat) (c : Nat) : Bool :=
  Region.noSelect ops && lateE md ops is (is ++ vs ++ z :: (ch ++ R.take c)) && lateE md ops vs (is ++ vs ++ z :: (ch ++ R.take c)) && headG md ops (insE md ops z vs R ch) is (Array.replicate ops.size false) && (R.drop c).all (fun t => !(is ++ vs ++ z :: (ch ++ R.take c)).contains t) && (is ++ ch ++ vs ++ R).all (fun t => decide (t < ops.size)) && decide (is.length + (ch.length + (vs.length + (R.length + 1))) = ops.size) && ((ch ++ vs).all fun t => match ops[z]?, ops[t]? with | some oz, some o => oz.apart ops o | _, _ => false)
/-- The beginning: the readers 'is'; the chain 'ch' of values not known ahead; the calculations 'vs' behind it; 'z' the alloc beside them; 'R' the others, of which c come early. -/
theorem wp_region_rz {id : Nat} {a : Act} {w : World} {l : List Oper} (is ch : List Nat) (z : Nat) (vs R : List Nat) (c : Nat) (S : World → Prop) (N : Nat) (hm : P.follows .mixedOrders = true) (hB : evzB .any l.toArray is ch z vs R c = true)
    (hS : ∀ u u', S u → Same u u' → S u') (hS0 : S w.drew) (hN : ∀ u, S u → N ≤ u.heap.size) (oz : Oper) (hoz : l[z]? = some oz) {Z : Array Value} {ty : TypeId} (hgz : oz.guard = none)
    (hz : ∀ ρ u, S u → (execOp ρ oz).run P u = .ok (.value (ptrV u.heap.size)) (u.alloc (.cells Z ty)))
    (h : seqV P l.toArray S (fun a' => chainP P l.toArray S (fun a Ψ => seqV P l.toArray S (fun a' => ∀ b, N ≤ b → tailR P l.toArray Q S c (opsOf l R) (a'.put oz.dst (ptrV b)) (fun u => Ψ u ∧ u.heap[b]? = some (.cells Z ty (0, 0)))) (opsOf l vs) a) (opsOf l ch) a' (fun _ => True)) (opsOf l is) a) :
    (Code.region id l.toArray true).wp P Q a w := by
  simp only [evzB, Bool.and_eq_true, decide_eq_true_eq] at hB
  obtain ⟨⟨⟨⟨⟨⟨⟨hsel, hl⟩, hlv⟩, hh⟩, ht⟩, htl⟩, hsz⟩, hap⟩ := hB
  have hlt : ∀ t, t ∈ is ∨ t ∈ ch ∨ t ∈ vs ∨ t ∈ R → t < l.length := fun t ht' => by
    have := List.all_eq_true.1 htl t (by simpa [or_assoc] using ht')
    simpa using this
  have e1 : l.toArray[z]? = some oz := by simpa using hoz
  have hapart : ∀ o, (∃ t ∈ ch ++ vs, l[t]? = some o) → oz.apart l.toArray o = true := fun o ho => by
    obtain ⟨t, ht', hot⟩ := ho
    have := List.all_eq_true.1 hap t ht'
    have e2 : l.toArray[t]? = some o := by simpa using hot
    rw [e1, e2] at this
    exact this
  have hx := RA_lexG (P := P) (Q := Q) (S := S) hsel hl (insE .any l.toArray z vs R ch) (ch.length + (vs.length + (R.length + 1))) _ (fun _ => True)
    (fun listed a' hi hk => RA_ins (ea := is ++ vs ++ z :: (ch ++ R.take c)) hsel hS N hN hoz hgz hz hlv (fun t ht' => hlt t (.inr (.inr (.inl ht')))) (fun o ho => hapart o (by obtain ⟨t, h1, h2⟩ := opsOf_mem ho; exact ⟨t, List.mem_append.2 (.inr h1), h2⟩)) R c (fun t ht' => hlt t (.inr (.inr (.inr ht')))) (fun t ht' => List.all_eq_true.1 ht t ht') ch listed a' _ (fun _ _ _ _ => trivial) hi (fun t ht' => hlt t (.inr (.inl ht'))) (fun o ho => hapart o (by obtain ⟨t, h1, h2⟩ := opsOf_mem ho; exact ⟨t, List.mem_append.2 (.inl h1), h2⟩)) hk) is (Array.replicate l.toArray.size false) a (fun i hi => ⟨hi, hlt i (.inl hi)⟩) hh h
  rw [hsz] at hx
  exact wp_region_any hm (wpAny_of_RA hS _ _ _ _ (fun _ _ _ _ => trivial) hx w.drew hS0 trivial)
theorem chainP_cons {K : Act → (World → Prop) → Prop} {o : Oper} {l : List Oper} {a : Act} {Ψ : World → Prop} (Φ : Value → World → Prop) (hw : Region.wanted o (yielded ops a.tmps) = true) (hc : ∀ x u u', Φ x u → Same u u' → Φ x u')
    (h : ∀ u, S u → Ψ u → stepR P (fun x u' => Same u u' ∧ Φ x u') ((execOp a.eval o).run P u)) (h2 : ∀ x, (∃ u, S u ∧ Φ x u) → chainP P ops S K l (a.put o.dst x) (Φ x)) : chainP P ops S K (o :: l) a Ψ :=
  ⟨Φ, hc, fun u hu hp => .inl ⟨hw, h u hu hp⟩, h2⟩
/-- A call of which something is known. -/
theorem chainP_call {K : Act → (World → Prop) → Prop} {o : Oper} {l : List Oper} {a : Act} {Ψ : World → Prop} {f : FuncId} {args : Array Value} (Φ : Value → World → Prop) (hw : Region.wanted o (yielded ops a.tmps) = true) (hc : ∀ x u u', Φ x u → Same u u' → Φ x u')
    (he : ∀ u, S u → Ψ u → (execOp a.eval o).run P u = .ok (.enter f args) u) (h : ∀ u, S u → Ψ u → Calls P f args u (fun e u' => ∃ v, e = .returned v ∧ Same u u' ∧ Φ v u')) (h2 : ∀ x, (∃ u, S u ∧ Φ x u) → chainP P ops S K l (a.put o.dst x) (Φ x)) : chainP P ops S K (o :: l) a Ψ :=
  chainP_cons Φ hw hc (fun u hu hp => by rw [he u hu hp]; exact h u hu hp) h2
/-- A calculation within the chain. -/
theorem chainP_run {K : Act → (World → Prop) → Prop} {o : Oper} {l : List Oper} {a : Act} {Ψ : World → Prop} {v : Value} (hw : Region.wanted o (yielded ops a.tmps) = true) (hΨ : ∀ u u', Ψ u → Same u u' → Ψ u')
    (h : ∀ u, S u → Ψ u → (execOp a.eval o).run P u = .ok (.value v) u) (h2 : chainP P ops S K l (a.put o.dst v) Ψ) : chainP P ops S K (o :: l) a Ψ := by
  refine ⟨fun x u => x = v ∧ Ψ u, fun x u u' hx hk => ⟨hx.1, hΨ _ _ hx.2 hk⟩, fun u hu hp => .inl ⟨hw, by rw [h u hu hp]; exact ⟨Keeps.refl _ _, rfl, hp⟩⟩, fun x hx => ?_⟩
  obtain ⟨u, _, rfl, _⟩ := hx
  have e : (fun u => x = x ∧ Ψ u) = Ψ := by funext u; simp
  show chainP P ops S K l (a.put o.dst x) (fun u => x = x ∧ Ψ u)
  rw [e]
  exact h2
theorem tailR_run {c : Nat} {o : Oper} {l : List Oper} {a : Act} {Ψ : World → Prop} {v : Value} (hw : Region.wanted o (yielded ops a.tmps) = true) (hΨ : ∀ u u', Ψ u → Same u u' → Ψ u')
    (h : ∀ u, S u → Ψ u → (execOp a.eval o).run P u = .ok (.value v) u) (h2 : tailR P ops Q S c l (a.put o.dst v) Ψ) : tailR P ops Q S (c + 1) (o :: l) a Ψ := by
  refine ⟨fun x u => x = v ∧ Ψ u, fun x u u' hx hk => ⟨hx.1, hΨ _ _ hx.2 hk⟩, fun u hu hp => .inl ⟨hw, by rw [h u hu hp]; exact ⟨hu, rfl, hp⟩⟩, fun x hx => ?_⟩
  obtain ⟨u, _, rfl, _⟩ := hx
  exact tailR_mono (fun u hu => hu.2) h2
theorem chainP_nil {K : Act → (World → Prop) → Prop} {a : Act} {Ψ : World → Prop} (h : K a Ψ) : chainP P ops S K [] a Ψ := h
end
end Go.Proofs.YtomphgpplbekiaaGreat
