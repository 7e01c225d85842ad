/- A region that draws its order, world by world left open: the operations 'is' each yield ONE value in every world that meets S, and leave all that was there as it was (a load; a calculation; a call that only makes memory); the others come up in one forced order, the first c of them perhaps ahead of some of the former. No program is named here. The law on regions that draw, for readers that may turn something: T says what they leave as it was. No program is named here. -/
import Derived.Test.YtomphgpplbekiaaGreatEv
import Derived.Test.YtomphgpplbekiaaGreatRows0
namespace Go.Proofs.YtomphgpplbekiaaGreat
open Go.RowKit
section
variable {P : Program} {ops : Array Oper} {Q : Exit → Act → World → Prop} {md : Region.Mode} {S : World → Prop}
/-- What one operation ends in: a value and a world that meet R. -/
def stepR (P : Program) (R : Value → World → Prop) : Result Next → Prop
  | .ok (.value v) w' => R v w'
  | .ok .skip w' => R undef w'
  | .ok (.enter f args) w' => Calls P f args w' (fun e w'' => ∃ v, e = .returned v ∧ R v w'')
  | _ => False
def OpR (P : Program) (ops : Array Oper) (o : Oper) (a : Act) (u : World) (R : Value → World → Prop) : Prop :=
  (Region.wanted o (yielded ops a.tmps) = true ∧ stepR P R ((execOp a.eval o).run P u)) ∨ (Region.wanted o (yielded ops a.tmps) = false ∧ R undef u)
theorem OpR.wpOp {i : Nat} {o : Oper} {a : Act} {u : World} {R : Value → World → Prop} {K : Act → World → Prop} (hi : ops[i]? = some o) (h : OpR P ops o a u R) (hK : ∀ v u', R v u' → K (a.put o.dst v) u') : wpOp P ops Q i K a u := by
  unfold Go.wpOp
  simp only [hi]
  rcases h with ⟨hw, h⟩ | ⟨hw, h⟩
  · simp only [hw, if_true, Oper.wp]
    refine .inl ?_
    generalize (execOp a.eval o).run P u = r at h
    cases r with
    | ok n w' =>
      cases n <;> simp only [stepR] at h <;> simp only [Oper.upon]
      case value v => exact hK _ _ h
      case skip => exact hK _ _ h
      case enter f args =>
        refine Calls.mono h fun e w'' he => ?_
        obtain ⟨v, rfl, hR⟩ := he
        exact hK _ _ hR
    | halt x w' => simp only [stepR] at h
  · simp only [hw, Bool.false_eq_true, if_false]; exact hK _ _ h
theorem OpR.of_same {o : Oper} {a a' : Act} {u : World} {R : Value → World → Prop} (h : OpR P ops o a u R) (he : execOp a'.eval o = execOp a.eval o)
    (hw : Region.wanted o (yielded ops a'.tmps) = Region.wanted o (yielded ops a.tmps)) : OpR P ops o a' u R := by
  unfold OpR at *
  rw [he, hw]
  exact h
/-- Whatever order is picked from here on; L: who waits for all of the readers. -/
def RA (P : Program) (md : Region.Mode) (ops : Array Oper) (Q : Exit → Act → World → Prop) (S : World → Prop) (L : Nat → Bool) : Nat → Array Bool → Act → (World → Prop) → Prop
  | 0, listed, a, Ψ => Region.ready md ops listed = [] ∧ ∀ u, S u → Ψ u → Q .normal a u
  | fuel + 1, listed, a, Ψ =>
    (Region.ready md ops listed = [] → ∀ u, S u → Ψ u → Q .normal a u) ∧
    ∀ i ∈ Region.ready md ops listed, ∀ o, ops[i]? = some o →
      (∃ v, (∀ u, S u → OpR P ops o a u (fun x u' => x = v ∧ Same u u')) ∧ RA P md ops Q S L fuel (listed.setIfInBounds i true) (a.put o.dst v) Ψ) ∨
      (∃ Φ : Value → World → Prop, (∀ x u u', Φ x u → Same u u' → Φ x u') ∧ (∀ u, S u → Ψ u → OpR P ops o a u (fun x u' => S u' ∧ Φ x u')) ∧ ∀ x, (∃ u, S u ∧ Φ x u) → RA P md ops Q S L fuel (listed.setIfInBounds i true) (a.put o.dst x) (Φ x)) ∨
      (L i = true ∧ ∀ u, S u → Ψ u → wpOp P ops Q i (fun a' w' => wpAny P md ops Q fuel (listed.setIfInBounds i true) a' w') a u)
theorem wpAny_of_RA {L : Nat → Bool} (hS : ∀ u u', S u → Same u u' → S u') : ∀ (fuel : Nat) (listed : Array Bool) (a : Act) (Ψ : World → Prop), (∀ u u', Ψ u → Same u u' → Ψ u') → RA P md ops Q S L fuel listed a Ψ → ∀ u, S u → Ψ u → wpAny P md ops Q fuel listed a u
  | 0, _, _, _, _, h, u, hs, hp => ⟨h.1, h.2 u hs hp⟩
  | fuel + 1, listed, a, Ψ, hΨ, h, u, hs, hp => ⟨fun hr => h.1 hr u hs hp, fun i hi => by
      obtain ⟨_, o, ho, _⟩ := mem_ready.1 hi
      rcases h.2 i hi o ho with ⟨v, hv, hr⟩ | ⟨Φ, hc, hv, hr⟩ | ⟨_, hv⟩
      · refine (hv u hs).wpOp ho fun x u' hx => ?_
        obtain ⟨rfl, hk⟩ := hx
        exact wpAny_of_RA hS fuel _ _ Ψ hΨ hr u' (hS _ _ hs hk) (hΨ _ _ hp hk)
      · refine (hv u hs hp).wpOp ho fun x u' hx => ?_
        exact wpAny_of_RA hS fuel _ _ (Φ x) (hc x) (hr x ⟨u', hx⟩) u' hx.1 hx.2
      · exact hv u hs hp⟩
theorem RA_first {is ea : List Nat} {i : Nat} {oi : Oper} {v : Value} (hi : ops[i]? = some oi) (hsel : ∀ (j : Nat) (o : Oper) cs b, ops[j]? = some o → o.op ≠ .select cs b)
    (hl : lateE md ops is ea = true) (hin : i ∈ is) :
    ∀ (fuel : Nat) (listed : Array Bool) (a : Act) (Ψ : World → Prop),
      (∀ j oj, ops[j]? = some oj → j ≠ i → listed.getD j true = false → (∀ e ∈ oj.after, Region.binds md e = true → e.on ≠ i) → oi.apart ops oj = true) →
      i ∈ Region.ready md ops listed → (∀ u, S u → OpR P ops oi a u (fun x u' => x = v ∧ Same u u')) →
      RA P md ops Q S (fun t => !ea.contains t) fuel (listed.setIfInBounds i true) (a.put oi.dst v) Ψ → RA P md ops Q S (fun t => !ea.contains t) (fuel + 1) listed a Ψ := by
  intro fuel
  induction fuel with
  | zero =>
    intro listed a Ψ _ hr hy H
    refine ⟨fun h => (by rw [h] at hr; cases hr), fun j hj o ho => ?_⟩
    by_cases hji : j = i
    · subst hji
      obtain rfl : o = oi := Option.some.inj (ho.symm.trans hi)
      exact .inl ⟨v, hy, H⟩
    · have := ready_mono hj hji
      rw [H.1] at this
      cases this
  | succ fuel ih =>
    intro listed a Ψ hfree hr hy H
    refine ⟨fun h => (by rw [h] at hr; cases hr), fun j hj o ho => ?_⟩
    by_cases hji : j = i
    · subst hji
      obtain rfl : o = oi := Option.some.inj (ho.symm.trans hi)
      exact .inl ⟨v, hy, H⟩
    · have h1 := H.2 j (ready_mono hj hji) o ho
      obtain ⟨hjun, oj, hoj, hall⟩ := mem_ready.1 hj
      obtain rfl : o = oj := Option.some.inj (ho.symm.trans hoj)
      have hun := (mem_ready.1 hr).1
      have hjm := lateE_waits hl hin hun hj
      have hnot : ∀ e ∈ o.after, Region.binds md e = true → e.on ≠ i := fun e he hb heq => by
        have h1 := hall e he hb
        rw [heq, getD_both hun] at h1
        cases h1
      obtain ⟨p1, p2, p3⟩ := Oper.apart_spec (hfree j o hoj hji hjun hnot)
      have keep : ∀ x, ∀ u, S u → OpR P ops oi (a.put o.dst x) u (fun x u' => x = v ∧ Same u u') := fun x u hu =>
        (hy u hu).of_same (execOp_put oi (fun cs b => hsel i oi cs b hi) a o.dst x p3) (wanted_put oi a o.dst x p3)
      have back : ∀ u R, OpR P ops o (a.put oi.dst v) u R → OpR P ops o a u R := fun u R h =>
        h.of_same (execOp_put o (fun cs b => hsel j o cs b hoj) a oi.dst v p1).symm (wanted_put o a oi.dst v p1).symm
      have hfree' : ∀ k ok, ops[k]? = some ok → k ≠ i → (listed.setIfInBounds j true).getD k true = false →
          (∀ e ∈ ok.after, Region.binds md e = true → e.on ≠ i) → oi.apart ops ok = true := fun k ok hk hki hun hno => by
        refine hfree k ok hk hki ?_ hno
        by_cases hjk : j = k
        · subst hjk; exact hjun
        · rw [getD_set_ne true hjk] at hun; exact hun
      have next : ∀ x Ψ', RA P md ops Q S (fun t => !ea.contains t) fuel ((listed.setIfInBounds i true).setIfInBounds j true) ((a.put oi.dst v).put o.dst x) Ψ' →
          RA P md ops Q S (fun t => !ea.contains t) (fuel + 1) (listed.setIfInBounds j true) (a.put o.dst x) Ψ' := fun x Ψ' h => by
        refine ih (listed.setIfInBounds j true) (a.put o.dst x) Ψ' hfree' (ready_mono hr (Ne.symm hji)) (keep x) ?_
        rw [Array.setIfInBounds_comm _ _ hji, ← Act.put_comm a v x p2]
        exact h
      rcases h1 with ⟨vj, hv, hr'⟩ | ⟨Φ, hc, hv, hr'⟩ | ⟨hL, _⟩
      · exact .inl ⟨vj, fun u hu => back _ _ (hv u hu), next _ _ hr'⟩
      · exact .inr (.inl ⟨Φ, hc, fun u hu hp => back _ _ (hv u hu hp), fun x hx => next _ _ (hr' x hx)⟩)
      · simp only [hjm] at hL; cases hL
/-- The readers, one behind the other. -/
def seqV (P : Program) (ops : Array Oper) (S : World → Prop) (K : Act → Prop) : List Oper → Act → Prop
  | [], a => K a
  | o :: l, a => ∃ v, (∀ u, S u → OpR P ops o a u (fun x u' => x = v ∧ Same u u')) ∧ seqV P ops S K l (a.put o.dst v)
/-- The others. -/
def tailR (P : Program) (ops : Array Oper) (Q : Exit → Act → World → Prop) (S : World → Prop) : Nat → List Oper → Act → (World → Prop) → Prop
  | 0, l, a, Ψ => ∀ u, S u → Ψ u → wpList P ops Q l a u
  | _ + 1, [], a, Ψ => ∀ u, S u → Ψ u → Q .normal a u
  | c + 1, o :: l, a, Ψ => ∃ Φ : Value → World → Prop, (∀ x u u', Φ x u → Same u u' → Φ x u') ∧ (∀ u, S u → Ψ u → OpR P ops o a u (fun x u' => S u' ∧ Φ x u')) ∧ ∀ x, (∃ u, S u ∧ Φ x u) → tailR P ops Q S c l (a.put o.dst x) (Φ x)
theorem wpAny_tail {l : List Oper} : ∀ (tl : List Nat) (listed : Array Bool) (a : Act) (u : World), tailE md l.toArray tl listed = true → (∀ t ∈ tl, t < l.length) → wpList P l.toArray Q (opsOf l tl) a u → wpAny P md l.toArray Q tl.length listed a u
  | [], listed, a, u, hB, _, h => ⟨by simpa [tailE] using hB, h⟩
  | t :: tl, listed, a, u, hB, hlt, h => by
    have ht : t < l.length := hlt t (by simp)
    have h0 : l.toArray[t]? = some l[t] := by simp [ht]
    rw [opsOf_cons l t tl l[t] (List.getElem?_eq_getElem ht)] at h
    simp only [tailE, Bool.and_eq_true, decide_eq_true_eq] at hB
    refine ⟨fun h1 => (by rw [hB.1] at h1; cases h1), fun i hi => ?_⟩
    rw [hB.1] at hi
    have hik : i = t := by simpa using hi
    subst hik
    have hw : wpOp P l.toArray Q i (wpList P l.toArray Q (opsOf l tl)) a u := by unfold wpOp; simp only [h0]; exact h
    exact wpOp_mono (fun a' w' h' => wpAny_tail tl _ a' w' hB.2 (fun t ht => hlt t (by simp [ht])) h') hw
theorem RA_tail {l : List Oper} {L : Nat → Bool} : ∀ (tl : List Nat) (c : Nat) (listed : Array Bool) (a : Act) (Ψ : World → Prop),
    tailE md l.toArray tl listed = true → (∀ t ∈ tl.drop c, L t = true) → (∀ t ∈ tl, t < l.length) → tailR P l.toArray Q S c (opsOf l tl) a Ψ → RA P md l.toArray Q S L tl.length listed a Ψ
  | [], c, _, _, _, hB, _, _, h => ⟨by simpa [tailE] using hB, by cases c <;> exact h⟩
  | t :: tl, c, listed, a, Ψ, hB, hc, hlt, h => by
    have ht : t < l.length := hlt t (by simp)
    have h0 : l.toArray[t]? = some l[t] := by simp [ht]
    have hB0 := hB
    simp only [tailE, Bool.and_eq_true, decide_eq_true_eq] at hB
    refine ⟨fun h1 => (by rw [hB.1] at h1; cases h1), fun i hi o ho => ?_⟩
    have hr := hB.1
    rw [hr] at hi
    have hik : i = t := by simpa using hi
    subst hik
    obtain rfl : o = l[i] := Option.some.inj (ho.symm.trans h0)
    cases c with
    | zero =>
      refine .inr (.inr ⟨hc i (by simp), fun u hs hp => ?_⟩)
      have h' := wpAny_tail (i :: tl) listed a u hB0 hlt (h u hs hp)
      exact h'.2 i (by rw [hr]; simp)
    | succ c =>
      rw [opsOf_cons l i tl l[i] (List.getElem?_eq_getElem ht)] at h
      obtain ⟨Φ, h1, h2, h3⟩ := h
      exact .inr (.inl ⟨Φ, h1, h2, fun x hx => RA_tail tl c _ _ _ hB.2 (fun t ht => hc t (by simpa using ht)) (fun t ht => hlt t (by simp [ht])) (h3 x hx)⟩)
theorem RA_lex {l : List Oper} {hd ea tl : List Nat} (c : Nat) (hsel : Region.noSelect l.toArray = true) (hl2 : lateE md l.toArray hd ea = true) (htl : ∀ t ∈ tl.drop c, ea.contains t = false) (hlt : ∀ t ∈ tl, t < l.length) :
    ∀ (is : List Nat) (listed : Array Bool) (a : Act), (∀ i ∈ is, i ∈ hd ∧ i < l.length) → headE md l.toArray tl is listed = true → seqV P l.toArray S (fun a' => tailR P l.toArray Q S c (opsOf l tl) a' (fun _ => True)) (opsOf l is) a →
    RA P md l.toArray Q S (fun t => !ea.contains t) (is.length + tl.length) listed a (fun _ => True)
  | [], listed, a, _, hB, h => by
    have hB' : tailE md l.toArray tl listed = true := hB
    simpa using RA_tail (L := fun t => !ea.contains t) tl c listed a _ hB' (fun t ht => by simpa using htl t ht) hlt h
  | i :: is, listed, a, hi, hB, h => by
    obtain ⟨hin, hil⟩ := hi i (by simp)
    have h0 : l.toArray[i]? = some l[i] := by simp [hil]
    rw [opsOf_cons l i is l[i] (List.getElem?_eq_getElem hil)] at h
    simp only [headE, Bool.and_eq_true] at hB
    obtain ⟨⟨hr, hf⟩, hB'⟩ := hB
    have hr' : i ∈ Region.ready md l.toArray listed := by simpa using hr
    obtain ⟨v, hy, hK⟩ := h
    rw [show (i :: is).length + tl.length = (is.length + tl.length) + 1 by simp only [List.length_cons]; omega]
    exact RA_first h0 (Region.noSelect_spec hsel) hl2 hin (is.length + tl.length) listed a _ (Region.free_spec h0 hf) hr' hy
      (RA_lex c hsel hl2 htl hlt is _ _ (fun j hj => hi j (by simp [hj])) hB' hK)
/-- The beginning. -/
theorem wp_region_ra {id : Nat} {a : Act} {w : World} {l : List Oper} (is tl : List Nat) (c : Nat) (S : World → Prop) (hm : P.follows .mixedOrders = true) (hB : evpB .any l.toArray is tl c = true)
    (hS : ∀ u u', S u → Same u u' → S u') (hS0 : S w.drew)
    (h : seqV P l.toArray S (fun a' => tailR P l.toArray Q S c (opsOf l tl) a' (fun _ => True)) (opsOf l is) a) : (Code.region id l.toArray true).wp P Q a w := by
  simp only [evpB, Bool.and_eq_true, decide_eq_true_eq] at hB
  obtain ⟨⟨⟨⟨⟨⟨hsel, hl⟩, hh⟩, ht⟩, htl⟩, his⟩, hsz⟩ := hB
  have hx := RA_lex (P := P) (Q := Q) (S := S) c hsel hl (fun t ht' => by have := List.all_eq_true.1 ht t ht'; simpa using this) (fun t ht' => by have := List.all_eq_true.1 htl t ht'; simpa using this) is (Array.replicate l.toArray.size false) a
    (fun i hi => ⟨hi, by have := List.all_eq_true.1 his i hi; simpa using this⟩) hh h
  rw [hsz] at hx
  exact wp_region_any hm (wpAny_of_RA hS _ _ _ _ (fun _ _ _ _ => trivial) hx w.drew hS0 trivial)
/-! The steps. -/
theorem seqV_cons {K : Act → Prop} {o : Oper} {l : List Oper} {a : Act} (v : Value) (hw : Region.wanted o (yielded ops a.tmps) = true) (h : ∀ u, S u → stepR P (fun x u' => x = v ∧ Same u u') ((execOp a.eval o).run P u))
    (h2 : seqV P ops S K l (a.put o.dst v)) : seqV P ops S K (o :: l) a := ⟨v, fun u hu => .inl ⟨hw, h u hu⟩, h2⟩
theorem seqV_no {K : Act → Prop} {o : Oper} {l : List Oper} {a : Act} (hw : Region.wanted o (yielded ops a.tmps) = false)
    (h2 : seqV P ops S K l (a.put o.dst undef)) : seqV P ops S K (o :: l) a := ⟨undef, fun _u _ => .inr ⟨hw, rfl, Keeps.refl _ _⟩, h2⟩
theorem seqV_nil {K : Act → Prop} {a : Act} (h : K a) : seqV P ops S K [] a := h
theorem stepR_value {R : Value → World → Prop} {v : Value} {u : World} (h : R v u) : stepR P R (.ok (.value v) u) := h
theorem stepR_skip {R : Value → World → Prop} {u : World} (h : R undef u) : stepR P R (.ok .skip u) := h
theorem stepR_enter {R : Value → World → Prop} {f : FuncId} {args : Array Value} {u : World} (h : Calls P f args u (fun e w'' => ∃ v, e = .returned v ∧ R v w'')) : stepR P R (.ok (.enter f args) u) := h
/-- A reader whose run is reckoned. -/
theorem seqV_run {K : Act → Prop} {o : Oper} {l : List Oper} {a : Act} {v : Value} (hw : Region.wanted o (yielded ops a.tmps) = true) (h : ∀ u, S u → (execOp a.eval o).run P u = .ok (.value v) u)
    (h2 : seqV P ops S K l (a.put o.dst v)) : seqV P ops S K (o :: l) a := seqV_cons v hw (fun u hu => by rw [h u hu]; exact ⟨rfl, Keeps.refl _ _⟩) h2
/-- A reader that is a call. -/
theorem seqV_call {K : Act → Prop} {o : Oper} {l : List Oper} {a : Act} {f : FuncId} {args : Array Value} {v : Value} (hw : Region.wanted o (yielded ops a.tmps) = true) (h : ∀ u, S u → (execOp a.eval o).run P u = .ok (.enter f args) u)
    (hc : ∀ u, S u → Calls P f args u (fun e w' => e = .returned v ∧ Same u w')) (h2 : seqV P ops S K l (a.put o.dst v)) : seqV P ops S K (o :: l) a :=
  seqV_cons v hw (fun u hu => by rw [h u hu]; exact (hc u hu).mono fun e w' he => ⟨v, he.1, rfl, he.2⟩) h2
theorem tailR_zero {l : List Oper} {a : Act} {Ψ : World → Prop} (h : ∀ u, S u → Ψ u → wpList P ops Q l a u) : tailR P ops Q S 0 l a Ψ := h
theorem tailR_mono {Ψ Ψ' : World → Prop} (hp : ∀ u, Ψ' u → Ψ u) : ∀ {c : Nat} {l : List Oper} {a : Act}, tailR P ops Q S c l a Ψ → tailR P ops Q S c l a Ψ'
  | 0, _, _, h => fun u hs hu => h u hs (hp u hu)
  | _ + 1, [], _, h => fun u hs hu => h u hs (hp u hu)
  | _ + 1, _ :: _, _, h => let ⟨Φ, h1, h2, h3⟩ := h; ⟨Φ, h1, fun u hs hu => h2 u hs (hp u hu), h3⟩
theorem tailR_cons {c : Nat} {o : Oper} {l : List Oper} {a : Act} {Ψ : World → Prop} (Φ : Value → World → Prop) (hw : Region.wanted o (yielded ops a.tmps) = true) (hc : ∀ x u u', Φ x u → Same u u' → Φ x u')
    (h : ∀ u, S u → Ψ u → stepR P (fun x u' => S u' ∧ Φ x u') ((execOp a.eval o).run P u)) (h2 : ∀ x, (∃ u, S u ∧ Φ x u) → tailR P ops Q S c l (a.put o.dst x) (Φ x)) : tailR P ops Q S (c + 1) (o :: l) a Ψ :=
  ⟨Φ, hc, fun u hs hp => .inl ⟨hw, h u hs hp⟩, h2⟩
/-- An early operation that makes a block: its address is whichever. -/
theorem tailR_alloc {c : Nat} {o : Oper} {l : List Oper} {a : Act} {Ψ : World → Prop} {t : TypeId} {Z : Array Value} (N : Nat) (hw : Region.wanted o (yielded ops a.tmps) = true) (hΨ : ∀ u u', Ψ u → Same u u' → Ψ u')
    (hS : ∀ u o, S u → S (u.alloc o)) (hN : ∀ u, S u → N ≤ u.heap.size) (h : ∀ u, S u → (execOp a.eval o).run P u = .ok (.value (.pointer (some ⟨u.heap.size, 0, none⟩))) (u.alloc (.cells Z t)))
    (h2 : ∀ b, N ≤ b → tailR P ops Q S c l (a.put o.dst (.pointer (some ⟨b, 0, none⟩))) (fun u => Ψ u ∧ u.heap[b]? = some (.cells Z t (0, 0)))) : tailR P ops Q S (c + 1) (o :: l) a Ψ := by
  refine tailR_cons (fun x u => ∃ b, x = .pointer (some ⟨b, 0, none⟩) ∧ N ≤ b ∧ Ψ u ∧ u.heap[b]? = some (.cells Z t (0, 0))) hw (fun x u u' hx hk => ?_) (fun u hs hp => ?_) (fun x hx => ?_)
  · obtain ⟨b, rfl, hb, hp, hh⟩ := hx
    exact ⟨b, rfl, hb, hΨ _ _ hp hk, hk.get hh id⟩
  · rw [h u hs]
    exact ⟨hS _ _ hs, _, rfl, hN u hs, hΨ _ _ hp ((Keeps.refl _ _).alloc _), block_new _ _⟩
  · obtain ⟨u, _, b, rfl, hb, _⟩ := hx
    refine tailR_mono (fun u hu => ?_) (h2 b hb)
    obtain ⟨b', e, _, hp, hh⟩ := hu
    cases e
    exact ⟨hp, hh⟩
end
theorem row_same {w w' : World} (h : Same w w') {k : Nat} (hs : 0 < (rowAt w k).size) : rowAt w' k = rowAt w k := by
  obtain ⟨t, hb⟩ := block_row0 hs
  rw [rowAt_of (h.get hb id)]
/-- As W, but for the block b, which is a row of n + 1 cells. -/
structure SR (W : World) (b n : Nat) (u : World) : Prop where
  k : Keeps (fun k => k = b) W u
  z : (rowAt u b).size = n + 1
theorem SR.same {W : World} {b n : Nat} (u u' : World) (h : SR W b n u) (k : Same u u') : SR W b n u' :=
  ⟨h.k.trans (k.mono fun _ _ h => h.elim), by rw [row_same k (by rw [h.z]; omega)]; exact h.z⟩
theorem SR.init {W : World} {b n : Nat} (h : (rowAt W b).size = n + 1) : SR W b n W.drew := ⟨(Keeps.refl _ _).drew, h⟩
theorem SR.set {W u : World} {b n : Nat} {A : Array Value} (h : SR W b n u) (hA : A.size = n + 1) : SR W b n (u.setRow b A) :=
  ⟨h.k.setRow (fun _ => rfl) _, by rw [rowAt_setRow_eq _ _ _ (by rw [h.z]; omega)]; exact hA⟩
structure FactsR (W u : World) (b : Nat) : Prop where
  c : ∀ k o, k < W.heap.size → k ≠ b → u.cell? ⟨k, o, none⟩ = W.cell? ⟨k, o, none⟩
  f : ∀ k o, k < W.heap.size → k ≠ b → u.frozen? ⟨k, o, none⟩ = W.frozen? ⟨k, o, none⟩
  r : ∀ k, k < W.heap.size → k ≠ b → rowAt u k = rowAt W k
theorem SR.facts {W u : World} {b n : Nat} (h : SR W b n u) : FactsR W u b :=
  ⟨fun k o hk hb => h.k.facts.c k o hk hb, fun k o hk hb => h.k.facts.f k o hk hb, fun k hk hb => h.k.facts.r k hk hb⟩
theorem keeps_factsR {W u : World} {b : Nat} (h : Keeps (fun k => k = b) W u) : FactsR W u b :=
  ⟨fun k o hk hb => h.facts.c k o hk hb, fun k o hk hb => h.facts.f k o hk hb, fun k hk hb => h.facts.r k hk hb⟩
/-- An early store of a whole block. -/
theorem tailR_row {P : Program} {ops : Array Oper} {Q : Exit → Act → World → Prop} {W : World} {b n c : Nat} {A : Array Value} {o : Oper} {l : List Oper} {a : Act} (hw : Region.wanted o (yielded ops a.tmps) = true) (hA : A.size = n + 1)
    (h : ∀ u, SR W b n u → (execOp a.eval o).run P u = .ok .skip (u.setRow b A)) (h2 : tailR P ops Q (SR W b n) c l (a.put o.dst undef) (fun u => rowAt u b = A)) : tailR P ops Q (SR W b n) (c + 1) (o :: l) a (fun _ => True) := by
  refine tailR_cons (fun x u => x = undef ∧ rowAt u b = A) hw (fun x u u' hx hk => ⟨hx.1, ?_⟩) (fun u hs _ => ?_) (fun x hx => ?_)
  · rw [row_same hk (by rw [hx.2, hA]; omega)]; exact hx.2
  · rw [h u hs]; exact ⟨hs.set hA, rfl, rowAt_setRow_eq _ _ _ (by rw [hs.z]; omega)⟩
  · obtain ⟨u, _, rfl, _⟩ := hx
    exact tailR_mono (fun u hu => hu.2) h2
end Go.Proofs.YtomphgpplbekiaaGreat
namespace Go.Proofs.YtomphgpplbekiaaGreat
open Go.RowKit
section
variable {P : Program} {ops : Array Oper} {Q : Exit → Act → World → Prop} {md : Region.Mode} {S : World → Prop} {T : World → World → Prop}
/-- Whatever order is picked from here on; L: who waits for all of the readers. -/
def RB (P : Program) (md : Region.Mode) (ops : Array Oper) (Q : Exit → Act → World → Prop) (S : World → Prop) (T : World → World → Prop) (L : Nat → Bool) : Nat → Array Bool → Act → (World → Prop) → Prop
  | 0, listed, a, Ψ => Region.ready md ops listed = [] ∧ ∀ u, S u → Ψ u → Q .normal a u
  | fuel + 1, listed, a, Ψ =>
    (Region.ready md ops listed = [] → ∀ u, S u → Ψ u → Q .normal a u) ∧
    ∀ i ∈ Region.ready md ops listed, ∀ o, ops[i]? = some o →
      (∃ v, (∀ u, S u → OpR P ops o a u (fun x u' => x = v ∧ T u u')) ∧ RB P md ops Q S T L fuel (listed.setIfInBounds i true) (a.put o.dst v) Ψ) ∨
      (∃ Φ : Value → World → Prop, (∀ x u u', Φ x u → T u u' → Φ x u') ∧ (∀ u, S u → Ψ u → OpR P ops o a u (fun x u' => S u' ∧ Φ x u')) ∧ ∀ x, (∃ u, S u ∧ Φ x u) → RB P md ops Q S T L fuel (listed.setIfInBounds i true) (a.put o.dst x) (Φ x)) ∨
      (L i = true ∧ ∀ u, S u → Ψ u → wpOp P ops Q i (fun a' w' => wpAny P md ops Q fuel (listed.setIfInBounds i true) a' w') a u)
theorem wpAny_of_RB {L : Nat → Bool} (hS : ∀ u u', S u → T u u' → S u') : ∀ (fuel : Nat) (listed : Array Bool) (a : Act) (Ψ : World → Prop), (∀ u u', Ψ u → T u u' → Ψ u') → RB P md ops Q S T L fuel listed a Ψ → ∀ u, S u → Ψ u → wpAny P md ops Q fuel listed a u
  | 0, _, _, _, _, h, u, hs, hp => ⟨h.1, h.2 u hs hp⟩
  | fuel + 1, listed, a, Ψ, hΨ, h, u, hs, hp => ⟨fun hr => h.1 hr u hs hp, fun i hi => by
      obtain ⟨_, o, ho, _⟩ := mem_ready.1 hi
      rcases h.2 i hi o ho with ⟨v, hv, hr⟩ | ⟨Φ, hc, hv, hr⟩ | ⟨_, hv⟩
      · refine (hv u hs).wpOp ho fun x u' hx => ?_
        obtain ⟨rfl, hk⟩ := hx
        exact wpAny_of_RB hS fuel _ _ Ψ hΨ hr u' (hS _ _ hs hk) (hΨ _ _ hp hk)
      · refine (hv u hs hp).wpOp ho fun x u' hx => ?_
        exact wpAny_of_RB hS fuel _ _ (Φ x) (hc x) (hr x ⟨u', hx⟩) u' hx.1 hx.2
      · exact hv u hs hp⟩
theorem RB_first {is ea : List Nat} {i : Nat} {oi : Oper} {v : Value} (hi : ops[i]? = some oi) (hsel : ∀ (j : Nat) (o : Oper) cs b, ops[j]? = some o → o.op ≠ .select cs b)
    (hl : lateE md ops is ea = true) (hin : i ∈ is) :
    ∀ (fuel : Nat) (listed : Array Bool) (a : Act) (Ψ : World → Prop),
      (∀ j oj, ops[j]? = some oj → j ≠ i → listed.getD j true = false → (∀ e ∈ oj.after, Region.binds md e = true → e.on ≠ i) → oi.apart ops oj = true) →
      i ∈ Region.ready md ops listed → (∀ u, S u → OpR P ops oi a u (fun x u' => x = v ∧ T u u')) →
      RB P md ops Q S T (fun t => !ea.contains t) fuel (listed.setIfInBounds i true) (a.put oi.dst v) Ψ → RB P md ops Q S T (fun t => !ea.contains t) (fuel + 1) listed a Ψ := by
  intro fuel
  induction fuel with
  | zero =>
    intro listed a Ψ _ hr hy H
    refine ⟨fun h => (by rw [h] at hr; cases hr), fun j hj o ho => ?_⟩
    by_cases hji : j = i
    · subst hji
      obtain rfl : o = oi := Option.some.inj (ho.symm.trans hi)
      exact .inl ⟨v, hy, H⟩
    · have := ready_mono hj hji
      rw [H.1] at this
      cases this
  | succ fuel ih =>
    intro listed a Ψ hfree hr hy H
    refine ⟨fun h => (by rw [h] at hr; cases hr), fun j hj o ho => ?_⟩
    by_cases hji : j = i
    · subst hji
      obtain rfl : o = oi := Option.some.inj (ho.symm.trans hi)
      exact .inl ⟨v, hy, H⟩
    · have h1 := H.2 j (ready_mono hj hji) o ho
      obtain ⟨hjun, oj, hoj, hall⟩ := mem_ready.1 hj
      obtain rfl : o = oj := Option.some.inj (ho.symm.trans hoj)
      have hun := (mem_ready.1 hr).1
      have hjm := lateE_waits hl hin hun hj
      have hnot : ∀ e ∈ o.after, Region.binds md e = true → e.on ≠ i := fun e he hb heq => by
        have h1 := hall e he hb
        rw [heq, getD_both hun] at h1
        cases h1
      obtain ⟨p1, p2, p3⟩ := Oper.apart_spec (hfree j o hoj hji hjun hnot)
      have keep : ∀ x, ∀ u, S u → OpR P ops oi (a.put o.dst x) u (fun x u' => x = v ∧ T u u') := fun x u hu =>
        (hy u hu).of_same (execOp_put oi (fun cs b => hsel i oi cs b hi) a o.dst x p3) (wanted_put oi a o.dst x p3)
      have back : ∀ u R, OpR P ops o (a.put oi.dst v) u R → OpR P ops o a u R := fun u R h =>
        h.of_same (execOp_put o (fun cs b => hsel j o cs b hoj) a oi.dst v p1).symm (wanted_put o a oi.dst v p1).symm
      have hfree' : ∀ k ok, ops[k]? = some ok → k ≠ i → (listed.setIfInBounds j true).getD k true = false →
          (∀ e ∈ ok.after, Region.binds md e = true → e.on ≠ i) → oi.apart ops ok = true := fun k ok hk hki hun hno => by
        refine hfree k ok hk hki ?_ hno
        by_cases hjk : j = k
        · subst hjk; exact hjun
        · rw [getD_set_ne true hjk] at hun; exact hun
      have next : ∀ x Ψ', RB P md ops Q S T (fun t => !ea.contains t) fuel ((listed.setIfInBounds i true).setIfInBounds j true) ((a.put oi.dst v).put o.dst x) Ψ' →
          RB P md ops Q S T (fun t => !ea.contains t) (fuel + 1) (listed.setIfInBounds j true) (a.put o.dst x) Ψ' := fun x Ψ' h => by
        refine ih (listed.setIfInBounds j true) (a.put o.dst x) Ψ' hfree' (ready_mono hr (Ne.symm hji)) (keep x) ?_
        rw [Array.setIfInBounds_comm _ _ hji, ← Act.put_comm a v x p2]
        exact h
      rcases h1 with ⟨vj, hv, hr'⟩ | ⟨Φ, hc, hv, hr'⟩ | ⟨hL, _⟩
      · exact .inl ⟨vj, fun u hu => back _ _ (hv u hu), next _ _ hr'⟩
      · exact .inr (.inl ⟨Φ, hc, fun u hu hp => back _ _ (hv u hu hp), fun x hx => next _ _ (hr' x hx)⟩)
      · simp only [hjm] at hL; cases hL
/-- The readers, one behind the other. -/
def seqT (P : Program) (ops : Array Oper) (S : World → Prop) (T : World → World → Prop) (K : Act → Prop) : List Oper → Act → Prop
  | [], a => K a
  | o :: l, a => ∃ v, (∀ u, S u → OpR P ops o a u (fun x u' => x = v ∧ T u u')) ∧ seqT P ops S T K l (a.put o.dst v)
/-- The others. -/
def tailT (P : Program) (ops : Array Oper) (Q : Exit → Act → World → Prop) (S : World → Prop) (T : World → World → Prop) : Nat → List Oper → Act → (World → Prop) → Prop
  | 0, l, a, Ψ => ∀ u, S u → Ψ u → wpList P ops Q l a u
  | _ + 1, [], a, Ψ => ∀ u, S u → Ψ u → Q .normal a u
  | c + 1, o :: l, a, Ψ => ∃ Φ : Value → World → Prop, (∀ x u u', Φ x u → T u u' → Φ x u') ∧ (∀ u, S u → Ψ u → OpR P ops o a u (fun x u' => S u' ∧ Φ x u')) ∧ ∀ x, (∃ u, S u ∧ Φ x u) → tailT P ops Q S T c l (a.put o.dst x) (Φ x)
theorem RB_tail {l : List Oper} {L : Nat → Bool} : ∀ (tl : List Nat) (c : Nat) (listed : Array Bool) (a : Act) (Ψ : World → Prop),
    tailE md l.toArray tl listed = true → (∀ t ∈ tl.drop c, L t = true) → (∀ t ∈ tl, t < l.length) → tailT P l.toArray Q S T c (opsOf l tl) a Ψ → RB P md l.toArray Q S T L tl.length listed a Ψ
  | [], c, _, _, _, hB, _, _, h => ⟨by simpa [tailE] using hB, by cases c <;> exact h⟩
  | t :: tl, c, listed, a, Ψ, hB, hc, hlt, h => by
    have ht : t < l.length := hlt t (by simp)
    have h0 : l.toArray[t]? = some l[t] := by simp [ht]
    have hB0 := hB
    simp only [tailE, Bool.and_eq_true, decide_eq_true_eq] at hB
    refine ⟨fun h1 => (by rw [hB.1] at h1; cases h1), fun i hi o ho => ?_⟩
    have hr := hB.1
    rw [hr] at hi
    have hik : i = t := by simpa using hi
    subst hik
    obtain rfl : o = l[i] := Option.some.inj (ho.symm.trans h0)
    cases c with
    | zero =>
      refine .inr (.inr ⟨hc i (by simp), fun u hs hp => ?_⟩)
      have h' := wpAny_tail (i :: tl) listed a u hB0 hlt (h u hs hp)
      exact h'.2 i (by rw [hr]; simp)
    | succ c =>
      rw [opsOf_cons l i tl l[i] (List.getElem?_eq_getElem ht)] at h
      obtain ⟨Φ, h1, h2, h3⟩ := h
      exact .inr (.inl ⟨Φ, h1, h2, fun x hx => RB_tail tl c _ _ _ hB.2 (fun t ht => hc t (by simpa using ht)) (fun t ht => hlt t (by simp [ht])) (h3 x hx)⟩)
theorem RB_lex {l : List Oper} {hd ea tl : List Nat} (c : Nat) (hsel : Region.noSelect l.toArray = true) (hl2 : lateE md l.toArray hd ea = true) (htl : ∀ t ∈ tl.drop c, ea.contains t = false) (hlt : ∀ t ∈ tl, t < l.length) :
    ∀ (is : List Nat) (listed : Array Bool) (a : Act), (∀ i ∈ is, i ∈ hd ∧ i < l.length) → headE md l.toArray tl is listed = true → seqT P l.toArray S T (fun a' => tailT P l.toArray Q S T c (opsOf l tl) a' (fun _ => True)) (opsOf l is) a →
    RB P md l.toArray Q S T (fun t => !ea.contains t) (is.length + tl.length) listed a (fun _ => True)
  | [], listed, a, _, hB, h => by
    have hB' : tailE md l.toArray tl listed = true := hB
    simpa using RB_tail (L := fun t => !ea.contains t) tl c listed a _ hB' (fun t ht => by simpa using htl t ht) hlt h
  | i :: is, listed, a, hi, hB, h => by
    obtain ⟨hin, hil⟩ := hi i (by simp)
    have h0 : l.toArray[i]? = some l[i] := by simp [hil]
    rw [opsOf_cons l i is l[i] (List.getElem?_eq_getElem hil)] at h
    simp only [headE, Bool.and_eq_true] at hB
    obtain ⟨⟨hr, hf⟩, hB'⟩ := hB
    have hr' : i ∈ Region.ready md l.toArray listed := by simpa using hr
    obtain ⟨v, hy, hK⟩ := h
    rw [show (i :: is).length + tl.length = (is.length + tl.length) + 1 by simp only [List.length_cons]; omega]
    exact RB_first h0 (Region.noSelect_spec hsel) hl2 hin (is.length + tl.length) listed a _ (Region.free_spec h0 hf) hr' hy
      (RB_lex c hsel hl2 htl hlt is _ _ (fun j hj => hi j (by simp [hj])) hB' hK)
/-- The beginning. -/
theorem wp_region_rb {id : Nat} {a : Act} {w : World} {l : List Oper} (is tl : List Nat) (c : Nat) (S : World → Prop) (hm : P.follows .mixedOrders = true) (hB : evpB .any l.toArray is tl c = true)
    (hS : ∀ u u', S u → T u u' → S u') (hS0 : S w.drew)
    (h : seqT P l.toArray S T (fun a' => tailT P l.toArray Q S T c (opsOf l tl) a' (fun _ => True)) (opsOf l is) a) : (Code.region id l.toArray true).wp P Q a w := by
  simp only [evpB, Bool.and_eq_true, decide_eq_true_eq] at hB
  obtain ⟨⟨⟨⟨⟨⟨hsel, hl⟩, hh⟩, ht⟩, htl⟩, his⟩, hsz⟩ := hB
  have hx := RB_lex (P := P) (Q := Q) (S := S) c hsel hl (fun t ht' => by have := List.all_eq_true.1 ht t ht'; simpa using this) (fun t ht' => by have := List.all_eq_true.1 htl t ht'; simpa using this) is (Array.replicate l.toArray.size false) a
    (fun i hi => ⟨hi, by have := List.all_eq_true.1 his i hi; simpa using this⟩) hh h
  rw [hsz] at hx
  exact wp_region_any hm (wpAny_of_RB hS _ _ _ _ (fun _ _ _ _ => trivial) hx w.drew hS0 trivial)
/-! The steps. -/
theorem seqT_cons {K : Act → Prop} {o : Oper} {l : List Oper} {a : Act} (v : Value) (hw : Region.wanted o (yielded ops a.tmps) = true) (h : ∀ u, S u → stepR P (fun x u' => x = v ∧ T u u') ((execOp a.eval o).run P u))
    (h2 : seqT P ops S T K l (a.put o.dst v)) : seqT P ops S T K (o :: l) a := ⟨v, fun u hu => .inl ⟨hw, h u hu⟩, h2⟩
theorem seqT_no (hT : ∀ u, T u u) {K : Act → Prop} {o : Oper} {l : List Oper} {a : Act} (hw : Region.wanted o (yielded ops a.tmps) = false)
    (h2 : seqT P ops S T K l (a.put o.dst undef)) : seqT P ops S T K (o :: l) a := ⟨undef, fun u _ => .inr ⟨hw, rfl, hT u⟩, h2⟩
theorem seqT_nil {K : Act → Prop} {a : Act} (h : K a) : seqT P ops S T K [] a := h
/-- A reader whose run is reckoned. -/
theorem seqT_run (hT : ∀ u, T u u) {K : Act → Prop} {o : Oper} {l : List Oper} {a : Act} {v : Value} (hw : Region.wanted o (yielded ops a.tmps) = true) (h : ∀ u, S u → (execOp a.eval o).run P u = .ok (.value v) u)
    (h2 : seqT P ops S T K l (a.put o.dst v)) : seqT P ops S T K (o :: l) a := seqT_cons v hw (fun u hu => by rw [h u hu]; exact ⟨rfl, hT u⟩) h2
/-- A reader that is a call. -/
theorem seqT_call {K : Act → Prop} {o : Oper} {l : List Oper} {a : Act} {f : FuncId} {args : Array Value} {v : Value} (hw : Region.wanted o (yielded ops a.tmps) = true) (h : ∀ u, S u → (execOp a.eval o).run P u = .ok (.enter f args) u)
    (hc : ∀ u, S u → Calls P f args u (fun e w' => e = .returned v ∧ T u w')) (h2 : seqT P ops S T K l (a.put o.dst v)) : seqT P ops S T K (o :: l) a :=
  seqT_cons v hw (fun u hu => by rw [h u hu]; exact (hc u hu).mono fun e w' he => ⟨v, he.1, rfl, he.2⟩) h2
theorem tailT_zero {l : List Oper} {a : Act} {Ψ : World → Prop} (h : ∀ u, S u → Ψ u → wpList P ops Q l a u) : tailT P ops Q S T 0 l a Ψ := h
theorem tailT_mono {Ψ Ψ' : World → Prop} (hp : ∀ u, Ψ' u → Ψ u) : ∀ {c : Nat} {l : List Oper} {a : Act}, tailT P ops Q S T c l a Ψ → tailT P ops Q S T c l a Ψ'
  | 0, _, _, h => fun u hs hu => h u hs (hp u hu)
  | _ + 1, [], _, h => fun u hs hu => h u hs (hp u hu)
  | _ + 1, _ :: _, _, h => let ⟨Φ, h1, h2, h3⟩ := h; ⟨Φ, h1, fun u hs hu => h2 u hs (hp u hu), h3⟩
theorem tailT_cons {c : Nat} {o : Oper} {l : List Oper} {a : Act} {Ψ : World → Prop} (Φ : Value → World → Prop) (hw : Region.wanted o (yielded ops a.tmps) = true) (hc : ∀ x u u', Φ x u → T u u' → Φ x u')
    (h : ∀ u, S u → Ψ u → stepR P (fun x u' => S u' ∧ Φ x u') ((execOp a.eval o).run P u)) (h2 : ∀ x, (∃ u, S u ∧ Φ x u) → tailT P ops Q S T c l (a.put o.dst x) (Φ x)) : tailT P ops Q S T (c + 1) (o :: l) a Ψ :=
  ⟨Φ, hc, fun u hs hp => .inl ⟨hw, h u hs hp⟩, h2⟩
end
end Go.Proofs.YtomphgpplbekiaaGreat
